/- Lemmas of the proof. Conditions: as each one states. -/
import Derived.Test.YtpaeogglppampaaGreatDoorQd
import Derived.Test.YtpaeogglppampaaGreatDoorQm
set_option maxRecDepth 100000
set_option maxHeartbeats 16000000
namespace Go.Proofs.YtpaeogglppampaaGreatDoor
open Go.RowKit
def ndF (x:Nd) (l t:Int):Nat→Value
 |0=>.int .i64 (x.k0:Nat)
 |1=>.int .i64 (x.k1:Nat)
 |2=>.int .i64 (x.up:Nat)
 |3=>.bool x.fl
 |4=>.int .i64 x.key
 |5=>.int .i64 x.sz
 |6=>.int .i64 (x.fi:Nat)
 |7=>.int .i64 l
 |_=>.int .i64 t
def ndC (σ:Sg) (li tt:Nat→Int) (x:Nat):Value:=ndF (σ (x / 9)) (li (x / 9)) (tt (x / 9)) (x%9)
def lV (f:Nat→Int) (i:Nat) (v:Int):Nat→Int:=λj=>if j=i then v else f j
def fT (w:World) (g n:Nat) (σ:Sg) (li tt:Nat→Int):Prop:=Row w g (9*(n+1)) (ndC σ li tt)
section
variable {w w':World} {g n i:Nat} {σ:Sg} {li tt:Nat→Int}
theorem fT.at (h:fT w g n σ li tt) (hi:i≤n) (c:Nat) (hc:c<9):w.cell? ⟨g,i*9+c,none⟩=some (ndF (σ i) (li i) (tt i) c):=by
 have h1:=Row.cell h (i:=i*9+c) om;rw[h1];unfold ndC;rw[show(i*9+c) / 9=i by omega,show(i*9+c)%9=c by omega]
theorem fT.c0 (h:fT w g n σ li tt) (hi:i≤n):w.cell? ⟨g,i*9,none⟩=some (.int .i64 ((σ i).k0:Nat)):=h.at hi 0 om
theorem fT.c1 (h:fT w g n σ li tt) (hi:i≤n):w.cell? ⟨g,i*9+1,none⟩=some (.int .i64 ((σ i).k1:Nat)):=h.at hi 1 om
theorem fT.c2 (h:fT w g n σ li tt) (hi:i≤n):w.cell? ⟨g,i*9+2,none⟩=some (.int .i64 ((σ i).up:Nat)):=h.at hi 2 om
theorem fT.c3 (h:fT w g n σ li tt) (hi:i≤n):w.cell? ⟨g,i*9+3,none⟩=some (.bool (σ i).fl):=h.at hi 3 om
theorem fT.c4 (h:fT w g n σ li tt) (hi:i≤n):w.cell? ⟨g,i*9+4,none⟩=some (.int .i64 (σ i).key):=h.at hi 4 om
theorem fT.c5 (h:fT w g n σ li tt) (hi:i≤n):w.cell? ⟨g,i*9+5,none⟩=some (.int .i64 (σ i).sz):=h.at hi 5 om
theorem fT.c6 (h:fT w g n σ li tt) (hi:i≤n):w.cell? ⟨g,i*9+6,none⟩=some (.int .i64 ((σ i).fi:Nat)):=h.at hi 6 om
theorem fT.c7 (h:fT w g n σ li tt) (hi:i≤n):w.cell? ⟨g,i*9+7,none⟩=some (.int .i64 (li i)):=h.at hi 7 om
theorem fT.c8 (h:fT w g n σ li tt) (hi:i≤n):w.cell? ⟨g,i*9+8,none⟩=some (.int .i64 (tt i)):=h.at hi 8 om
theorem fT.fz (h:fT w g n σ li tt) (q:Nat):w.frozen? ⟨g,q,none⟩=false:=Row.frozen h q
theorem fT.lt (h:fT w g n σ li tt):g<w.heap.size:=Row.lt h
theorem fT.of_block (h:fT w g n σ li tt) (e:w'.heap[g]?=w.heap[g]?):fT w' g n σ li tt:=Row.of_block h e
theorem fT.off {S:List Nat} (h:fT w g n σ li tt) (o:Off S w w') (hg:g∉S):fT w' g n σ li tt:=Row.off h o hg
theorem fT.set (h:fT w g n σ li tt) (c0:Nat) (hc0:c0<9) (v:Value) (y:Nd) (l t:Int) (hv:∀c<9,(if c=c0 then v else ndF (σ i) (li i) (tt i) c)=ndF y l t c):
  fT (w.setCell ⟨g,i*9+c0,none⟩ v) g n (σ.put i y) (lV li i l) (lV tt i t):=by
 refine(Row.set h (i*9+c0) v).congr λx _=>?_;unfold ndC
 by_cases hx:x / 9=i
 ·have hc:x%9<9:=Nat.mod_lt _ (by decide);have h1:=hv (x%9) hc;have e1:(x=i*9+c0)↔x%9=c0:=om;rw[hx,Sg.put_eq];have e2:lV li i l i=l:=if_pos rfl;have e3:lV tt i t i=t:=if_pos rfl;rw[e2,e3,←h1]
  by_cases c:x%9=c0
  ·rw[if_pos c,if_pos (e1.2 c)]
  ·rw[if_neg c,if_neg (λe=>c (e1.1 e))]
 ·have e1:x≠i*9+c0:=om;have e2:lV li i l (x / 9)=li (x / 9):=if_neg hx;have e3:lV tt i t (x / 9)=tt (x / 9):=if_neg hx;rw[if_neg e1,Sg.bE _ _ hx,e2,e3]
theorem bC (f:Nat→Int) (i:Nat):lV f i (f i)=f:=by
 funext j;unfold lV;split
 ·rename_i h;rw[h]
 ·rfl
theorem Sg.Dw (σ:Sg) (i:Nat):σ.put i (σ i)=σ:=by
 funext j;unfold Sg.put;split
 ·rename_i h;rw[h]
 ·rfl
theorem fT.s0 (h:fT w g n σ li tt) (i:Nat) (v:Nat):fT (w.setCell ⟨g,i*9,none⟩ (.int .i64 (v:Nat))) g n (σ.put i { σ i with k0:=v }) li tt:=by
 have:=h.set (i:=i) 0 om (.int .i64 v) { σ i with k0:=v } (li i) (tt i) (λc hc=>by match c,hc with |0,_=>rfl |1,_=>rfl |2,_=>rfl |3,_=>rfl |4,_=>rfl |5,_=>rfl |6,_=>rfl |7,_=>rfl |8,_=>rfl |n+9,k=>omega)
 rwa [bC,bC] at this
theorem fT.s1 (h:fT w g n σ li tt) (i:Nat) (v:Nat):fT (w.setCell ⟨g,i*9+1,none⟩ (.int .i64 (v:Nat))) g n (σ.put i { σ i with k1:=v }) li tt:=by
 have:=h.set (i:=i) 1 om (.int .i64 v) { σ i with k1:=v } (li i) (tt i) (λc hc=>by match c,hc with |0,_=>rfl |1,_=>rfl |2,_=>rfl |3,_=>rfl |4,_=>rfl |5,_=>rfl |6,_=>rfl |7,_=>rfl |8,_=>rfl |n+9,k=>omega)
 rwa [bC,bC] at this
theorem fT.s2 (h:fT w g n σ li tt) (i:Nat) (v:Nat):fT (w.setCell ⟨g,i*9+2,none⟩ (.int .i64 (v:Nat))) g n (σ.put i { σ i with up:=v }) li tt:=by
 have:=h.set (i:=i) 2 om (.int .i64 v) { σ i with up:=v } (li i) (tt i) (λc hc=>by match c,hc with |0,_=>rfl |1,_=>rfl |2,_=>rfl |3,_=>rfl |4,_=>rfl |5,_=>rfl |6,_=>rfl |7,_=>rfl |8,_=>rfl |n+9,k=>omega)
 rwa [bC,bC] at this
theorem fT.s3 (h:fT w g n σ li tt) (i:Nat) (v:Bool):fT (w.setCell ⟨g,i*9+3,none⟩ (.bool v)) g n (σ.put i { σ i with fl:=v }) li tt:=by
 have:=h.set (i:=i) 3 om (.bool v) { σ i with fl:=v } (li i) (tt i) (λc hc=>by match c,hc with |0,_=>rfl |1,_=>rfl |2,_=>rfl |3,_=>rfl |4,_=>rfl |5,_=>rfl |6,_=>rfl |7,_=>rfl |8,_=>rfl |n+9,k=>omega)
 rwa [bC,bC] at this
theorem fT.s4 (h:fT w g n σ li tt) (i:Nat) (v:Int):fT (w.setCell ⟨g,i*9+4,none⟩ (.int .i64 v)) g n (σ.put i { σ i with key:=v }) li tt:=by
 have:=h.set (i:=i) 4 om (.int .i64 v) { σ i with key:=v } (li i) (tt i) (λc hc=>by match c,hc with |0,_=>rfl |1,_=>rfl |2,_=>rfl |3,_=>rfl |4,_=>rfl |5,_=>rfl |6,_=>rfl |7,_=>rfl |8,_=>rfl |n+9,k=>omega)
 rwa [bC,bC] at this
theorem fT.s5 (h:fT w g n σ li tt) (i:Nat) (v:Int):fT (w.setCell ⟨g,i*9+5,none⟩ (.int .i64 v)) g n (σ.put i { σ i with sz:=v }) li tt:=by
 have:=h.set (i:=i) 5 om (.int .i64 v) { σ i with sz:=v } (li i) (tt i) (λc hc=>by match c,hc with |0,_=>rfl |1,_=>rfl |2,_=>rfl |3,_=>rfl |4,_=>rfl |5,_=>rfl |6,_=>rfl |7,_=>rfl |8,_=>rfl |n+9,k=>omega)
 rwa [bC,bC] at this
theorem fT.s6 (h:fT w g n σ li tt) (i:Nat) (v:Nat):fT (w.setCell ⟨g,i*9+6,none⟩ (.int .i64 (v:Nat))) g n (σ.put i { σ i with fi:=v }) li tt:=by
 have:=h.set (i:=i) 6 om (.int .i64 v) { σ i with fi:=v } (li i) (tt i) (λc hc=>by match c,hc with |0,_=>rfl |1,_=>rfl |2,_=>rfl |3,_=>rfl |4,_=>rfl |5,_=>rfl |6,_=>rfl |7,_=>rfl |8,_=>rfl |n+9,k=>omega)
 rwa [bC,bC] at this
theorem fT.s7 (h:fT w g n σ li tt) (i:Nat) (v:Int):fT (w.setCell ⟨g,i*9+7,none⟩ (.int .i64 v)) g n σ (lV li i v) tt:=by
 have:=h.set (i:=i) 7 om (.int .i64 v) (σ i) v (tt i) (λc hc=>by match c,hc with |0,_=>rfl |1,_=>rfl |2,_=>rfl |3,_=>rfl |4,_=>rfl |5,_=>rfl |6,_=>rfl |7,_=>rfl |8,_=>rfl |n+9,k=>omega)
 rwa [bC,Sg.Dw] at this
theorem fT.s8 (h:fT w g n σ li tt) (i:Nat) (v:Int):fT (w.setCell ⟨g,i*9+8,none⟩ (.int .i64 v)) g n σ li (lV tt i v):=by
 have:=h.set (i:=i) 8 om (.int .i64 v) (σ i) (li i) v (λc hc=>by match c,hc with |0,_=>rfl |1,_=>rfl |2,_=>rfl |3,_=>rfl |4,_=>rfl |5,_=>rfl |6,_=>rfl |7,_=>rfl |8,_=>rfl |n+9,k=>omega)
 rwa [bC,Sg.Dw] at this
end
structure bT (w:World) (b g n cap:Nat) (σ:Sg) (li tt:Nat→Int) (ed:Int):Prop where
 fr:Row w b 3 (λi=>(#[Value.pointer (some ⟨b,0,none⟩),.slice (some ⟨g,0,none⟩) (n+1:Nat) cap,.int .i64 ed]:Array Value).getD i undef)
 nr:fT w g n σ li tt
 ne:b≠g
section
variable {w w':World} {b g n cap i:Nat} {σ:Sg} {li tt:Nat→Int} {ed:Int}
theorem bT.c0 (h:bT w b g n cap σ li tt ed):w.cell? ⟨b,0,none⟩=some (.pointer (some ⟨b,0,none⟩)):=h.fr.c 0
theorem bT.c1 (h:bT w b g n cap σ li tt ed):w.cell? ⟨b,1,none⟩=some (.slice (some ⟨g,0,none⟩) (n+1:Nat) cap):=h.fr.c 1
theorem bT.c2 (h:bT w b g n cap σ li tt ed):w.cell? ⟨b,2,none⟩=some (.int .i64 ed):=h.fr.c 2
theorem bT.keep (h:bT w b g n cap σ li tt ed) (e:∀j∈[b,g],w'.heap[j]?=w.heap[j]?):bT w' b g n cap σ li tt ed:=⟨h.fr.of_block (e b sj),h.nr.of_block (e g sj),h.ne⟩
theorem bT.dn (h:bT w b g n cap σ li tt ed) (q:Nat):bT (w.drewN q) b g n cap σ li tt ed:=h.keep λj _=>sj
theorem bT.dr (h:bT w b g n cap σ li tt ed):bT w.drew b g n cap σ li tt ed:=h.keep λ_ _=>rfl
theorem bT.lt (h:bT w b g n cap σ li tt ed):∀j∈[b,g],j<w.heap.size:=λj hj=>by
 simp only[List.mem_cons,List.not_mem_nil,or_false] at hj
 rcases hj with rfl |rfl
 ·exact h.fr.lt
 ·exact h.nr.lt
theorem bT.nodes {σ':Sg} {Xp iY:Nat→Int} (h:bT w b g n cap σ li tt ed) (o:Off [g] w w') (k:fT w' g n σ' Xp iY):bT w' b g n cap σ' Xp iY ed:=
 ⟨h.fr.off o (by simpa using h.ne),k,h.ne⟩
end
def dz (x y:Int):Int:=if x<y then -1 else if y<x then 1 else 0
theorem Xm (x:Int) (w:World):Calls Tryz.prog 212 #[.int .i64 x] w λe w'=>e=.returned (.bool false)∧w'=w:=by
 have hz:(x !=x)=false:=sj;go_in;go_wp2;go_ret;exact⟨rfl,rfl⟩
theorem acB (x:Int) (w:World):Calls Tryz.prog 213 #[.int .i64 x] w λe w'=>e=.returned (.bool false)∧w'=w:=by
 have hz:(x !=x)=false:=sj;go_in;go_wp2;go_ret;exact⟨rfl,rfl⟩
theorem Ag (x y:Int) (w:World):Calls Tryz.prog 193 #[.int .i64 x,.int .i64 y] w λe w'=>e=.returned (.int .i64 (dz x y))∧w'=w:=by
 have H1:=jh (Xm x w);have H2:=jh (Xm y w)
 rcases Int.lt_trichotomy x y with h |h |h
 ·have hc:=jh (show dz x y=-1 from if_pos h);have k1:decide (x<y)=true:=dP h;clear h;go_in;go_wp2_with fail;apply mO H1;rintro e w' ⟨rfl,rfl⟩;go_wp2_with fail;apply mO H2;rintro e w' ⟨rfl,rfl⟩;go_wp2;go_ret;exact⟨by rw[hc.out];rfl,rfl⟩
 ·have hc:=jh (show dz x y=0 by unfold dz;rw[if_neg om,if_neg om]);have k1:decide (x<y)=false:=dF om;have k2:decide (x>y)=false:=dF om;clear h;go_in;go_wp2_with fail;apply mO H1;rintro e w' ⟨rfl,rfl⟩;go_wp2_with fail;apply mO H2;rintro e w' ⟨rfl,rfl⟩;go_wp2;go_ret;exact⟨by rw[hc.out];rfl,rfl⟩
 ·have hc:=jh (show dz x y=1 by unfold dz;rw[if_neg om,if_pos h]);have k1:decide (x<y)=false:=dF om;have k2:decide (x>y)=true:=dP om;clear h;go_in;go_wp2_with fail;apply mO H1;rintro e w' ⟨rfl,rfl⟩;go_wp2_with fail;apply mO H2;rintro e w' ⟨rfl,rfl⟩;go_wp2;go_ret;exact⟨by rw[hc.out];rfl,rfl⟩
theorem EL (x y:Int) (w:World):Calls Tryz.prog 194 #[.int .i64 x,.int .i64 y] w λe w'=>e=.returned (.int .i64 (dz x y))∧w'=w:=by
 have H1:=jh (acB x w);have H2:=jh (acB y w)
 rcases Int.lt_trichotomy x y with h |h |h
 ·have hc:=jh (show dz x y=-1 from if_pos h);have k1:decide (x<y)=true:=dP h;clear h;go_in;go_wp2_with fail;apply mO H1;rintro e w' ⟨rfl,rfl⟩;go_wp2_with fail;apply mO H2;rintro e w' ⟨rfl,rfl⟩;go_wp2;go_ret;exact⟨by rw[hc.out];rfl,rfl⟩
 ·have hc:=jh (show dz x y=0 by unfold dz;rw[if_neg om,if_neg om]);have k1:decide (x<y)=false:=dF om;have k2:decide (x>y)=false:=dF om;clear h;go_in;go_wp2_with fail;apply mO H1;rintro e w' ⟨rfl,rfl⟩;go_wp2_with fail;apply mO H2;rintro e w' ⟨rfl,rfl⟩;go_wp2;go_ret;exact⟨by rw[hc.out];rfl,rfl⟩
 ·have hc:=jh (show dz x y=1 by unfold dz;rw[if_neg om,if_pos h]);have k1:decide (x<y)=false:=dF om;have k2:decide (x>y)=true:=dP om;clear h;go_in;go_wp2_with fail;apply mO H1;rintro e w' ⟨rfl,rfl⟩;go_wp2_with fail;apply mO H2;rintro e w' ⟨rfl,rfl⟩;go_wp2;go_ret;exact⟨by rw[hc.out];rfl,rfl⟩
theorem Qb (g:Nat) (x y r:Int) (w:World) (hr:(if x=0 then y else x)=r) (h0:w.cell? ⟨g,0,none⟩=some (.int .i64 x)) (h1:w.cell? ⟨g,1,none⟩=some (.int .i64 y)):
  Calls Tryz.prog 192 #[.slice (some ⟨g,0,none⟩) 2 2] w λe w'=>e=.returned (.int .i64 r)∧w'=w:=by
 have HR:=jh hr;clear hr;go_in;go_wp2
 go_loopw [8] (λi wr=>∃k:Nat,k≤2∧i=.int .i64 k∧Hid (1≤k→x=0)∧Hid (2≤k→y=0)∧Hid (wr=w)) (λi _=>2-(intOf i).toNat)
 case atStart=>exact⟨0,om,rfl,jh (λh=>om),jh (λh=>om),jh rfl⟩
 case round=>
  obtain⟨k,hk,rfl,hx,hy,hw⟩:=hrel;obtain rfl:=hw.out;have:k=0∨k=1∨k=2:=om
  rcases this with rfl |rfl |rfl
  ·by_cases hz:x=0
   ·have hb:(x !=0)=false:=by simpa using hz
    have HZ:=jh hz;clear hz;go_wp2;go_roundw
    case rel=>exact⟨1,om,rfl,jh (λ_=>HZ.out),jh (λh=>om),jh trivial⟩
    case measure=>simp[intOf]
   ·have hb:(x !=0)=true:=by simpa using hz
    have HZ:=jh hz;clear hz;go_wp2;go_ret;exact⟨by rw[←HR.out,if_neg HZ.out];rfl,rfl⟩
  ·have HX:=jh (hx.out om)
   by_cases hz:y=0
   ·have hb:(y !=0)=false:=by simpa using hz
    have HZ:=jh hz;clear hz;go_wp2;go_roundw
    case rel=>exact⟨2,om,rfl,jh (λ_=>HX.out),jh (λ_=>HZ.out),jh trivial⟩
    case measure=>simp[intOf]
   ·have hb:(y !=0)=true:=by simpa using hz
    clear hz;go_wp2;go_ret;exact⟨by rw[←HR.out,if_pos HX.out];rfl,rfl⟩
  ·have HX:=jh (hx.out om);have HY:=jh (hy.out om);go_wp2;go_ret;exact⟨by rw[←HR.out,if_pos HX.out,HY.out];rfl,rfl⟩
def Lf (a b:En):Int:=if dz a.k b.k=0 then dz a.i b.i else dz a.k b.k
theorem Jl (a b:En):Lf a b<0↔a.lt b:=by
 unfold Lf dz En.lt
 repeat' split
 all_goals omega
theorem xH (a b:En) (w:World):Calls Tryz.prog 186 #[.agg #[.int .i64 (a.i:Nat),.int .i64 a.k],.agg #[.int .i64 (b.i:Nat),.int .i64 b.k]] w λe w'=>e=.returned (.int .i64 (Lf a b))∧Off [] w w':=by
 have H1:=jh (λw=>Ag a.k b.k w);have H2:=jh (λw=>EL a.i b.i w);have HO:=jh (show(if dz a.k b.k=0 then dz a.i b.i else dz a.k b.k)=Lf a b from rfl);obtain⟨ai,hai⟩:=nE ((a.i:Int));obtain⟨bi,hbi⟩:=nE ((b.i:Int));rw[hai,hbi];rw[hai,hbi] at H2 HO;clear hai hbi;obtain⟨c1,h1⟩:=nE (dz a.k b.k);obtain⟨c2,h2⟩:=nE (dz ai bi);rw[h1] at H1 HO;rw[h2] at H2 HO;clear h1 h2;go_in;go_wp2_with fail;generalize hW:((w.alloc (.cells #[.int .i64 ai,.int .i64 a.k] 110)).alloc (.cells #[.int .i64 bi,.int .i64 b.k] 110))=W
 have R1:Row W w.heap.size 2 (λi=>(#[Value.int .i64 ai,.int .i64 a.k]:Array Value).getD i undef):=by
  rw[←hW];exact(Row.lit (n:=2) (f:=λi=>(#[Value.int .i64 ai,.int .i64 a.k]:Array Value).getD i undef) w #[.int .i64 ai,.int .i64 a.k] 110 (Nat.le_refl _) lC).alloc _
 have R2:Row W (w.heap.size+1) 2 (λi=>(#[Value.int .i64 bi,.int .i64 b.k]:Array Value).getD i undef):=by
  have:=Row.lit (n:=2) (f:=λi=>(#[Value.int .i64 bi,.int .i64 b.k]:Array Value).getD i undef) (w.alloc (.cells #[.int .i64 ai,.int .i64 a.k] 110)) #[.int .i64 bi,.int .i64 b.k] 110 (Nat.le_refl _) lC;rw[←hW];simpa using this
 have CK:Hid (Off [] w W):=jh (by rw[←hW];exact((Off.refl [] w).alloc _).alloc _);obtain⟨P,hP⟩:=nE w.heap.size;obtain⟨Q,hQ⟩:=nE (P+1);rw[hP] at R1 R2⊢;rw[hQ] at R2⊢;have HS:W.drew.cell? ⟨P,0,none⟩=some (.int .i64 ai)∧W.drew.cell? ⟨P,1,none⟩=some (.int .i64 a.k)∧W.drew.cell? ⟨Q,0,none⟩=some (.int .i64 bi)∧W.drew.cell? ⟨Q,1,none⟩=some (.int .i64 b.k):=⟨R1.c 0,R1.c 1,R2.c 0,R2.c 1⟩;have H1:=jh (H1.out W.drew);have H2:=jh (H2.out W.drew);clear hW hP hQ R1 R2;refine aj (λw'=>w'.cell? ⟨P,0,none⟩=some (.int .i64 ai)∧w'.cell? ⟨P,1,none⟩=some (.int .i64 a.k)∧w'.cell? ⟨Q,0,none⟩=some (.int .i64 bi)∧w'.cell? ⟨Q,1,none⟩=some (.int .i64 b.k)) (by kernel_rfl) ?_;refine tC 0 ?_;refine tC 1 ?_;refine tC 2 ?_;refine tC 3 ?_;refine tC 5 ?_;refine tC 6 ?_;refine tC 7 ?_;refine tC 8 ?_
 try simp only[sD]
 refine rC 4 λK hK=>?_;go_simp;apply mO H1;rintro e w' ⟨rfl,rfl⟩;dsimp only;refine hK.out _ _ HS (λ_=>?_);clear hK;refine rC 9 λK hK=>?_;go_simp;apply mO H2;rintro e w' ⟨rfl,rfl⟩;dsimp only;refine hK.out _ _ HS (λ_=>?_);clear hK
 have HN:(W.alloc (.cells #[.int .i64 c1,.int .i64 c2] 3)).drew.cell? ⟨P,0,none⟩=some (.int .i64 ai)∧(W.alloc (.cells #[.int .i64 c1,.int .i64 c2] 3)).drew.cell? ⟨P,1,none⟩=some (.int .i64 a.k)∧(W.alloc (.cells #[.int .i64 c1,.int .i64 c2] 3)).drew.cell? ⟨Q,0,none⟩=some (.int .i64 bi)∧(W.alloc (.cells #[.int .i64 c1,.int .i64 c2] 3)).drew.cell? ⟨Q,1,none⟩=some (.int .i64 b.k):=
  ⟨(World.cell?_alloc_some W _ _ (by rw[show W.cell? _=_ from HS.1];rfl)).trans HS.1,(World.cell?_alloc_some W _ _ (by rw[show W.cell? _=_ from HS.2.1];rfl)).trans HS.2.1,(World.cell?_alloc_some W _ _ (by rw[show W.cell? _=_ from HS.2.2.1];rfl)).trans HS.2.2.1,(World.cell?_alloc_some W _ _ (by rw[show W.cell? _=_ from HS.2.2.2];rfl)).trans HS.2.2.2⟩
 have hnew:=Row.lit (n:=2) (f:=λi=>(#[Value.int .i64 c1,.int .i64 c2]:Array Value).getD i undef) W #[.int .i64 c1,.int .i64 c2] 3 (Nat.le_refl _) lC;have eG:=jh (Qb W.heap.size c1 c2 _ (W.alloc (.cells #[.int .i64 c1,.int .i64 c2] 3)).drew HO.out (hnew.drew.c 0) (hnew.drew.c 1));clear HO hnew;refine rC 10 λK hK=>?_;go_simp;refine hK.out _ _ HN (λ_=>?_);clear hK;refine rC 11 λK hK=>?_;go_simp;apply mO eG;rintro e w' ⟨rfl,rfl⟩;dsimp only;refine hK.out _ _ HN (λHS=>?_);clear hK;refine tC 12 ?_
 try simp only[sD]
 refine dD ⟨rfl,?_⟩;go_wp2;go_ret;exact⟨rfl,(CK.out.alloc _).drew⟩
section
variable {w:World} {f:bY} {S:Nat} {sv:Value} {pl:Nat→Nat} {L:List En}
theorem Tryz.YX:(Tryz.prog.info? 221).isSome=true:=by kernel_rfl
theorem VO (a:Addr) (w:World):(binOp .eql 125 (.pointer (some a)) (.pointer (some a))).run Tryz.prog w=.ok (.bool true) w:=by
 obtain⟨j,hj⟩:=Option.isSome_iff_exists.1 Tryz.YX;exact run_eql_ptr_same w a Tryz.underlying125 hj
theorem jZ (h:eT w f S sv pl L):
  Calls Tryz.prog 124 #[.pointer (some ⟨f.h,0,none⟩)] w λe w'=>e=.returned (.bool true)∧w'=w:=by
 have c0:=h.c0;have eq:=VO ⟨f.h,0,none⟩;clear h;go_in;go_wp2;go_ret;exact⟨rfl,rfl⟩
theorem Er (h:eT w f S sv pl L) {i:Nat} (hi:i<S):
  Calls Tryz.prog 132 #[.pointer (some ⟨f.h,0,none⟩),.int .i64 (i:Nat)] w λe w'=>e=.returned (.bool true)∧w'=w:=by
 have c1:=h.c1;have d1:decide ((i:Int)≥0)=true:=dP om;have d2:decide ((i:Int)<S)=true:=dP om;clear h;go_in;go_wp2;go_ret;exact⟨rfl,rfl⟩
theorem xG (h:eT w f S sv pl L) {i:Nat} (hi:i<S) (hS:S≤65536) (hp:pl i≤65536):
  Calls Tryz.prog 133 #[.pointer (some ⟨f.h,0,none⟩),.int .i64 (i:Nat)] w λe w'=>e=.returned (.int .i64 ((pl i:Int)-1))∧w'=w:=by
 obtain⟨nb,hnb⟩:=nE ((S+63) / 64);have c3:=h.c3;rw[hnb] at c3;obtain⟨k,hk⟩:=nE (i / 64);obtain⟨r,hr⟩:=nE (i%64);have bk:(0:Int)≤k∧(k:Int)<nb∧(nb:Int)≤1024:=om;have br:(0:Int)≤r∧(r:Int)<64:=om
 have e1:(i:Int).tdiv 64=k:=by rw[Int.tdiv_eq_ediv_of_nonneg om];omega
 have e2:(i:Int).tmod 64=r:=by rw[Int.tmod_eq_emod_of_nonneg om];omega
 have kp:=h.pr.c k;have bi:(0:Int)≤i∧(i:Int)≤65536:=om
 cases hv:f.pv k with
 |none=>
  rw[hv] at kp;have hz:=h.zz i om (by rw[hk];exact hv);rw[hz];clear h hv hz hnb hk hr;go_in;go_wp2;go_ret;exact⟨rfl,rfl⟩
 |some c=>
  rw[hv] at kp;have cr:=(h.bk k om c hv).c r;rw[show 64*k+r=i by omega] at cr;obtain⟨y,hy⟩:=nE (pl i);rw[hy] at cr hp;rw[hy]
  have by':(0:Int)≤y∧(y:Int)≤65536:=om
  clear h hv hnb hk hr hy;go_in;go_wp2;go_ret;exact⟨rfl,rfl⟩
end
structure yF (f f':bY) (S:Nat) (w w':World):Prop where
 off:Off (f.bl S) w w'
 fQ:∀j∈f'.bl S,j∈f.bl S∨w.heap.size≤j
 sh:f'.h=f.h
theorem yF.trans {f f1 f2:bY} {S:Nat} {a b c:World} (h:yF f f1 S a b) (k:yF f1 f2 S b c):yF f f2 S a c:=
 ⟨h.off.trans k.off h.fQ,λj hj=>(k.fQ j hj).elim (h.fQ j) λe=>.inr (Nat.le_trans h.off.size e),k.sh.trans h.sh⟩
theorem Yb:(#[.int .i64 0,.int .i64 0,.int .i64 0,.int .i64 0,.int .i64 0,.int .i64 0,.int .i64 0,.int .i64 0,.int .i64 0,.int .i64 0,.int .i64 0,.int .i64 0,.int .i64 0,.int .i64 0,.int .i64 0,.int .i64 0,.int .i64 0,.int .i64 0,.int .i64 0,.int .i64 0,.int .i64 0,.int .i64 0,.int .i64 0,.int .i64 0,.int .i64 0,.int .i64 0,.int .i64 0,.int .i64 0,.int .i64 0,.int .i64 0,.int .i64 0,.int .i64 0,.int .i64 0,.int .i64 0,.int .i64 0,.int .i64 0,.int .i64 0,.int .i64 0,.int .i64 0,.int .i64 0,.int .i64 0,.int .i64 0,.int .i64 0,.int .i64 0,.int .i64 0,.int .i64 0,.int .i64 0,.int .i64 0,.int .i64 0,.int .i64 0,.int .i64 0,.int .i64 0,.int .i64 0,.int .i64 0,.int .i64 0,.int .i64 0,.int .i64 0,.int .i64 0,.int .i64 0,.int .i64 0,.int .i64 0,.int .i64 0,.int .i64 0,.int .i64 0]:Array Value)=Array.replicate 64 (.int .i64 0):=rfl
theorem Yc (i:Nat) (h:i<64):(#[.int .i64 0,.int .i64 0,.int .i64 0,.int .i64 0,.int .i64 0,.int .i64 0,.int .i64 0,.int .i64 0,.int .i64 0,.int .i64 0,.int .i64 0,.int .i64 0,.int .i64 0,.int .i64 0,.int .i64 0,.int .i64 0,.int .i64 0,.int .i64 0,.int .i64 0,.int .i64 0,.int .i64 0,.int .i64 0,.int .i64 0,.int .i64 0,.int .i64 0,.int .i64 0,.int .i64 0,.int .i64 0,.int .i64 0,.int .i64 0,.int .i64 0,.int .i64 0,.int .i64 0,.int .i64 0,.int .i64 0,.int .i64 0,.int .i64 0,.int .i64 0,.int .i64 0,.int .i64 0,.int .i64 0,.int .i64 0,.int .i64 0,.int .i64 0,.int .i64 0,.int .i64 0,.int .i64 0,.int .i64 0,.int .i64 0,.int .i64 0,.int .i64 0,.int .i64 0,.int .i64 0,.int .i64 0,.int .i64 0,.int .i64 0,.int .i64 0,.int .i64 0,.int .i64 0,.int .i64 0,.int .i64 0,.int .i64 0,.int .i64 0,.int .i64 0]:Array Value)[i]'h=.int .i64 0:=by
 simp only[Yb,Array.getElem_replicate]
section
variable {w:World} {f:bY} {S:Nat} {sv:Value} {pl:Nat→Nat} {L:List En}
theorem lN (h:eT w f S sv pl L) {i:Nat} {p:Int} {v:Nat} (hi:i<S) (hS:S≤65536) (hp:p+1=v) (hv:v≤65536):
  Calls Tryz.prog 134 #[.pointer (some ⟨f.h,0,none⟩),.int .i64 (i:Nat),.int .i64 p] w λe w'=>e=.returned (.tuple #[])∧∃f',eT w' f' S sv (λj=>if j=i then v else pl j) L∧f'.g=f.g∧yF f f' S w w':=by
 obtain⟨nb,hnb⟩:=nE ((S+63) / 64);have c3:=h.c3;rw[hnb] at c3;obtain⟨k,hk⟩:=nE (i / 64);obtain⟨r,hr⟩:=nE (i%64);have bk:(0:Int)≤k∧(k:Int)<nb∧(nb:Int)≤1024:=om;have br:(0:Int)≤r∧(r:Int)<64:=om
 have e1:(i:Int).tdiv 64=k:=by rw[Int.tdiv_eq_ediv_of_nonneg om];omega
 have e2:(i:Int).tmod 64=r:=by rw[Int.tmod_eq_emod_of_nonneg om];omega
 have kp:=h.pr.c k;have kf:=h.pr.frozen k;have bi:(0:Int)≤i∧(i:Int)≤65536:=om;have bv:(0:Int)≤v∧(v:Int)≤65536:=om;have HK:=jh (And.intro hk (And.intro hr hnb))
 cases hv:f.pv k with
 |none=>
  rw[hv] at kp
  have ho:Row (w.alloc (.cells #[.int .i64 0,.int .i64 0,.int .i64 0,.int .i64 0,.int .i64 0,.int .i64 0,.int .i64 0,.int .i64 0,.int .i64 0,.int .i64 0,.int .i64 0,.int .i64 0,.int .i64 0,.int .i64 0,.int .i64 0,.int .i64 0,.int .i64 0,.int .i64 0,.int .i64 0,.int .i64 0,.int .i64 0,.int .i64 0,.int .i64 0,.int .i64 0,.int .i64 0,.int .i64 0,.int .i64 0,.int .i64 0,.int .i64 0,.int .i64 0,.int .i64 0,.int .i64 0,.int .i64 0,.int .i64 0,.int .i64 0,.int .i64 0,.int .i64 0,.int .i64 0,.int .i64 0,.int .i64 0,.int .i64 0,.int .i64 0,.int .i64 0,.int .i64 0,.int .i64 0,.int .i64 0,.int .i64 0,.int .i64 0,.int .i64 0,.int .i64 0,.int .i64 0,.int .i64 0,.int .i64 0,.int .i64 0,.int .i64 0,.int .i64 0,.int .i64 0,.int .i64 0,.int .i64 0,.int .i64 0,.int .i64 0,.int .i64 0,.int .i64 0,.int .i64 0] 231)) w.heap.size 64 (λ_=>.int .i64 0):=
   Row.lit w #[.int .i64 0,.int .i64 0,.int .i64 0,.int .i64 0,.int .i64 0,.int .i64 0,.int .i64 0,.int .i64 0,.int .i64 0,.int .i64 0,.int .i64 0,.int .i64 0,.int .i64 0,.int .i64 0,.int .i64 0,.int .i64 0,.int .i64 0,.int .i64 0,.int .i64 0,.int .i64 0,.int .i64 0,.int .i64 0,.int .i64 0,.int .i64 0,.int .i64 0,.int .i64 0,.int .i64 0,.int .i64 0,.int .i64 0,.int .i64 0,.int .i64 0,.int .i64 0,.int .i64 0,.int .i64 0,.int .i64 0,.int .i64 0,.int .i64 0,.int .i64 0,.int .i64 0,.int .i64 0,.int .i64 0,.int .i64 0,.int .i64 0,.int .i64 0,.int .i64 0,.int .i64 0,.int .i64 0,.int .i64 0,.int .i64 0,.int .i64 0,.int .i64 0,.int .i64 0,.int .i64 0,.int .i64 0,.int .i64 0,.int .i64 0,.int .i64 0,.int .i64 0,.int .i64 0,.int .i64 0,.int .i64 0,.int .i64 0,.int .i64 0,.int .i64 0] 231 (Nat.le_refl _) Yc
  have hn:=h.ahq (k:=k) om hv _ ho;have hkp:=(h.pr.alloc (.cells #[.int .i64 0,.int .i64 0,.int .i64 0,.int .i64 0,.int .i64 0,.int .i64 0,.int .i64 0,.int .i64 0,.int .i64 0,.int .i64 0,.int .i64 0,.int .i64 0,.int .i64 0,.int .i64 0,.int .i64 0,.int .i64 0,.int .i64 0,.int .i64 0,.int .i64 0,.int .i64 0,.int .i64 0,.int .i64 0,.int .i64 0,.int .i64 0,.int .i64 0,.int .i64 0,.int .i64 0,.int .i64 0,.int .i64 0,.int .i64 0,.int .i64 0,.int .i64 0,.int .i64 0,.int .i64 0,.int .i64 0,.int .i64 0,.int .i64 0,.int .i64 0,.int .i64 0,.int .i64 0,.int .i64 0,.int .i64 0,.int .i64 0,.int .i64 0,.int .i64 0,.int .i64 0,.int .i64 0,.int .i64 0,.int .i64 0,.int .i64 0,.int .i64 0,.int .i64 0,.int .i64 0,.int .i64 0,.int .i64 0,.int .i64 0,.int .i64 0,.int .i64 0,.int .i64 0,.int .i64 0,.int .i64 0,.int .i64 0,.int .i64 0,.int .i64 0] 231)).c k;have Zi:=(h.pr.alloc (.cells #[.int .i64 0,.int .i64 0,.int .i64 0,.int .i64 0,.int .i64 0,.int .i64 0,.int .i64 0,.int .i64 0,.int .i64 0,.int .i64 0,.int .i64 0,.int .i64 0,.int .i64 0,.int .i64 0,.int .i64 0,.int .i64 0,.int .i64 0,.int .i64 0,.int .i64 0,.int .i64 0,.int .i64 0,.int .i64 0,.int .i64 0,.int .i64 0,.int .i64 0,.int .i64 0,.int .i64 0,.int .i64 0,.int .i64 0,.int .i64 0,.int .i64 0,.int .i64 0,.int .i64 0,.int .i64 0,.int .i64 0,.int .i64 0,.int .i64 0,.int .i64 0,.int .i64 0,.int .i64 0,.int .i64 0,.int .i64 0,.int .i64 0,.int .i64 0,.int .i64 0,.int .i64 0,.int .i64 0,.int .i64 0,.int .i64 0,.int .i64 0,.int .i64 0,.int .i64 0,.int .i64 0,.int .i64 0,.int .i64 0,.int .i64 0,.int .i64 0,.int .i64 0,.int .i64 0,.int .i64 0,.int .i64 0,.int .i64 0,.int .i64 0,.int .i64 0] 231)).frozen k;rw[hv] at hkp;have d3:=hn.c3;have dp:=hn.pr.c k;have hpv:(f.nH k w.heap.size).pv k=some w.heap.size:=if_pos rfl;rw[hpv] at dp;have hcr:=hn.bk k om _ hpv;have cr:=hcr.c r;have fr:=hcr.frozen r;rw[hnb,show(f.nH k w.heap.size).h=f.h from rfl,show(f.nH k w.heap.size).pb=f.pb from rfl] at d3;rw[show(f.nH k w.heap.size).pb=f.pb from rfl] at dp;have HN:=jh hn;have HV:=jh hv;have H:=jh h;clear h hv hnb hk hr hn ho hcr hpv;go_in;go_wp2;go_end0
  have hc:(f.nH k w.heap.size).pv (i / 64)=some w.heap.size:=by rw[HK.out.1];exact if_pos rfl
  have h9:=HN.out.Xg (i:=i) hi hc v;rw[HK.out.2.1] at h9;refine⟨rfl,_,h9,rfl,⟨?_,λj hj=>?_,rfl⟩⟩
  ·refine Off.mono (S:=w.heap.size::f.bl S) ?_ (λj hj=>(List.mem_cons.1 hj).elim (λe=>.inr om) .inl);refine Off.setCell (Off.setCell ((Off.refl _ _).alloc _) ?_ _) ?_ _
   ·exact List.mem_cons_of_mem _ (bY.ak.2 (.inr (.inr (.inl rfl))))
   ·exact List.mem_cons_self
  ·rcases bY.ak.1 hj with e |e |e |⟨q,hq,e⟩
   ·exact .inl (bY.ak.2 (.inl e))
   ·exact .inl (bY.ak.2 (.inr (.inl e)))
   ·exact .inl (bY.ak.2 (.inr (.inr (.inl e))))
   ·unfold bY.nH at e;simp only at e
    by_cases c1:q=k
    ·rw[if_pos c1] at e;exact .inr (oC (Option.some.inj e))
    ·rw[if_neg c1] at e;exact .inl (bY.ak.2 (.inr (.inr (.inr ⟨q,hq,e⟩))))
 |some c=>
  rw[hv] at kp;have hcr:=h.bk k om c hv;have cr:=hcr.c r;have fr:=hcr.frozen r;have H:=jh h;have HV:=jh hv;clear h hv hnb hk hr hcr;go_in;go_wp2;go_end0
  have hc:f.pv (i / 64)=some c:=by rw[HK.out.1];exact HV.out
  have h9:=H.out.Xg (i:=i) hi hc v;rw[HK.out.2.1] at h9;refine⟨rfl,f,h9,rfl,⟨(Off.refl _ _).setCell (bY.ak.2 (.inr (.inr (.inr ⟨k,oC HK.out,HV.out⟩)))) _,λj hj=>.inl hj,rfl⟩⟩
end
section
variable {w:World} {f:bY} {S:Nat} {sv:Value} {pl:Nat→Nat} {L:List En}
theorem eT.sl (h:eT w f S sv pl L) (h0:0<L.length):∃g cap,sv=.slice (some ⟨g,0,none⟩) L.length cap∧f.g=some g:=by
 rcases h.ow.2 with⟨_,e⟩ |⟨g,cap,cur,e,_⟩
 ·omega
 ·exact⟨g,cap,e,by rw[←h.og,e];rfl⟩
theorem eT.Jb {g cap p:Nat} (h:eT w f S (.slice (some ⟨g,0,none⟩) L.length cap) pl L) (hp:p<L.length) (e:En):
  eT ((w.setCell ⟨g,p*2,none⟩ (.int .i64 (e.i:Nat))).setCell ⟨g,p*2+1,none⟩ (.int .i64 e.k)) f S (.slice (some ⟨g,0,none⟩) (L.set p e).length cap) pl (L.set p e):=by
 have hg:f.g=some g:=h.og.symm;have o:=nR (i:=p*2+1) (nR (i:=p*2) h.ow (.int .i64 e.i)) (.int .i64 e.k);rw[JO hp] at o;rw[List.length_set];have hd:∀j,j≠g→((w.setCell ⟨g,p*2,none⟩ (.int .i64 e.i)).setCell ⟨g,p*2+1,none⟩ (.int .i64 e.k)).heap[j]?=w.heap[j]?:=λj hj=>(Below.heap_setCell _ _ _ _ hj).trans (Below.heap_setCell _ _ _ _ hj);exact⟨h.hr.of_block (hd _ λc=>h.n2.1 (by rw[hg,c])),by rw[List.length_set];exact o,h.og,h.pr.of_block (hd _ λc=>h.n2.2 (by rw[hg,c])),λk hk c hc=>(h.bk k hk c hc).of_block (hd _ λe2=>(h.n3 k c hk hc).2.2 (by rw[hg,e2])),h.zz,h.n1,h.n2,h.n3,h.n4⟩
theorem uI (h:eT w f S sv pl L) {p q:Nat} (hp:p<L.length) (hq:q<L.length) (hL:L.length≤65536) (hS:S≤65536) (hi:∀x<L.length,(aB L x).i<S):
  Calls Tryz.prog 137 #[.pointer (some ⟨f.h,0,none⟩),.int .i64 (p:Nat),.int .i64 (q:Nat)] w λe w'=>e=.returned (.tuple #[])∧∃f',eT w' f' S sv (λj=>if j=(aB L p).i then q+1 else if j=(aB L q).i then p+1 else pl j) (dG L p q)∧f'.g=f.g∧yF f f' S w w':=by
 obtain⟨g,cap,rfl,hg⟩:=h.sl om;obtain⟨N,hN⟩:=nE L.length;have c2:=h.c2;have ho:=h.ow;rw[hN] at c2 ho;have p0:=aD ho (bB hp).1;have p1:=aD ho (bB hp).2;have q0:=aD ho (bB hq).1;have q1:=aD ho (bB hq).2;have bp:(0:Int)≤p∧(p:Int)<N:=om;have bq:(0:Int)≤q∧(q:Int)<N:=om;have H:=jh h;have HI:=jh hi;have HG:=jh hg;have HN:=jh hN;have HB:=jh (And.intro hp (And.intro hq hL));clear h hi hg hN ho hp hq hL;go_in;go_wp2_with fail;have hne:f.h≠g:=λe=>H.out.n2.1 (by rw[HG.out,e]);have R1:=λx y=>Row.setOther (a:=⟨g,p*2+1,none⟩) (Row.setOther (a:=⟨g,p*2,none⟩) H.out.hr hne x) hne y;have R2:=λx y z t=>Row.setOther (a:=⟨g,q*2+1,none⟩) (Row.setOther (a:=⟨g,q*2,none⟩) (R1 x y) hne z) hne t
 have vE:((w.setCell ⟨g,p*2,none⟩ (.int .i64 ((aB L q).i:Nat))).setCell ⟨g,p*2+1,none⟩ (.int .i64 (aB L q).k)).drew.cell? ⟨f.h,2,none⟩=some (.slice (some ⟨g,0,none⟩) N cap):=by
  rw[←HN.out];exact(R1 (.int .i64 ((aB L q).i:Nat)) (.int .i64 (aB L q).k)).c 2
 have HS2:((((w.setCell ⟨g,p*2,none⟩ (.int .i64 ((aB L q).i:Nat))).setCell ⟨g,p*2+1,none⟩ (.int .i64 (aB L q).k)).setCell ⟨g,q*2,none⟩ (.int .i64 ((aB L p).i:Nat))).setCell ⟨g,q*2+1,none⟩ (.int .i64 (aB L p).k)).cell? ⟨f.h,2,none⟩=some (.slice (some ⟨g,0,none⟩) N cap):=by
  rw[←HN.out];exact(R2 (.int .i64 ((aB L q).i:Nat)) (.int .i64 (aB L q).k) (.int .i64 ((aB L p).i:Nat)) (.int .i64 (aB L p).k)).c 2
 have ho1:((w.setCell ⟨g,p*2,none⟩ (.int .i64 ((aB L q).i:Nat))).setCell ⟨g,p*2+1,none⟩ (.int .i64 (aB L q).k)).ownsRow 0 110 2 (.slice (some ⟨g,0,none⟩) L.length cap) L.length (yX (L.set p (aB L q))):=by
  have:=nR (i:=p*2+1) (nR (i:=p*2) H.out.ow (.int .i64 ((aB L q).i:Nat))) (.int .i64 (aB L q).k);rw[JO HB.out.1] at this;exact this
 have hq1:q<(L.set p (aB L q)).length:=by rw[List.length_set];exact HB.out.2.1
 have v0:=aD ho1 (bB hq1).1;have v1:=aD ho1 (bB hq1).2;have fK:=jh ho1;clear ho1;have HS:w.drew.cell? ⟨f.h,2,none⟩=some (.slice (some ⟨g,0,none⟩) N cap):=c2;refine aj (λw'=>w'.cell? ⟨f.h,2,none⟩=some (.slice (some ⟨g,0,none⟩) N cap)) (by kernel_rfl) ?_;refine tC 0 ?_;refine tC 1 ?_;refine tC 2 ?_;refine tC 3 ?_;refine tC 4 ?_;refine tC 5 ?_;refine tC 6 ?_;refine tC 7 ?_;refine tC 8 ?_;refine tC 9 ?_;refine tC 10 ?_;refine tC 11 ?_;refine tC 12 ?_;refine tC 13 ?_;refine tC 14 ?_;refine tC 15 ?_;refine tC 17 ?_;refine tC 18 ?_;refine tC 19 ?_;refine tC 20 ?_;refine tC 21 ?_;refine tC 22 ?_
 try simp only[sD]
 refine Py [16,23] ?_;refine AllReadyH.cons rfl (λK hK=>?_) (AllReadyH.cons rfl (λK hK=>?_) AllReadyH.nil)
 ·go_simp;refine hK.out _ _ HS (λ_=>?_);clear hK;refine rC 23 λK hK=>?_;go_simp;refine hK.out _ _ HS (λ_=>?_);clear hK;refine tC 24 ?_
  try simp only[sD]
  refine rC 25 λK hK=>?_;go_simp;refine hK.out _ _ vE (λ_=>?_);clear hK HS;have HS:=vE;refine tC 26 ?_
  try simp only[sD]
  refine rC 27 λK hK=>?_;go_simp;refine hK.out _ _ HS2 (λ_=>?_);clear hK;refine dD ⟨rfl,?_⟩;generalize hW:((((w.setCell ⟨g,p*2,none⟩ (.int .i64 ((aB L q).i:Nat))).setCell ⟨g,p*2+1,none⟩ (.int .i64 (aB L q).k)).setCell ⟨g,q*2,none⟩ (.int .i64 ((aB L p).i:Nat))).setCell ⟨g,q*2+1,none⟩ (.int .i64 (aB L p).k)).drew=W
  have hM:eT W f S (.slice (some ⟨g,0,none⟩) (dG L p q).length cap) pl (dG L p q):=by
   rw[←hW];have h1:=(H.out.Jb HB.out.1 (aB L q)).Jb (p:=q) hq1 (aB L p);exact h1.keep λ_ _=>rfl
  have hO:Off (f.bl S) w W:=by
   rw[←hW];have hgm:g∈f.bl S:=bY.ak.2 (.inr (.inl HG.out));exact((((((Off.refl _ w).setCell (p:=⟨g,p*2,none⟩) hgm _).setCell (p:=⟨g,p*2+1,none⟩) hgm _).setCell (p:=⟨g,q*2,none⟩) hgm _).setCell (p:=⟨g,q*2+1,none⟩) hgm _)).drew
  have HM:=jh hM;have HO:=jh hO
  have ep:aB (dG L p q) p=aB L q:=by rw[bA HB.out.1 HB.out.2.1];split;(rename_i c;rw[c]);rw[if_pos rfl]
  have eq':aB (dG L p q) q=aB L p:=by rw[bA HB.out.1 HB.out.2.1,if_pos rfl]
  have c2':=hM.c2;have x0:=aD hM.ow (bB (p:=p) (by rw[aI];exact HB.out.1)).1;rw[ep] at x0;rw[aI,HN.out] at c2';have HE:=jh eq';clear hW hM hO HS vE HS2 R1 R2 v0 v1 hq1 fK p0 p1 q0 q1 ep eq' c2;go_wp2_with fail;refine(lN HM.out (i:=(aB L q).i) (v:=p+1) (HI.out q HB.out.2.1) hS om (oC HB.out)).mono ?_;rintro e w3 ⟨rfl,f1,m1,g1,o1⟩;have c2':=m1.c2;have x0:=aD m1.ow (bB (p:=q) (by rw[aI];exact HB.out.2.1)).1;rw[HE.out] at x0;rw[aI,HN.out] at c2';have hsh:=o1.sh;rw[hsh] at c2';have Ki:=jh m1;have fK:=jh o1;have Nv:=jh g1;have HSh:=jh hsh;clear m1 o1 g1 hsh;go_wp2_with fail;rw[←HSh.out];refine(lN Ki.out (i:=(aB L p).i) (v:=q+1) (HI.out p HB.out.1) hS om (oC HB.out)).mono ?_;rintro e w4 ⟨rfl,f2,m2,g2,o2⟩;rw[aI] at m2;have kG:=jh m2;have eG:=jh o2;have HG2:=jh g2;clear m2 o2 g2;go_wp2;go_end0;exact⟨rfl,f2,kG.out,HG2.out.trans Nv.out,yF.trans (yF.trans ⟨HO.out,λ_ h=>.inl h,rfl⟩ fK.out) eG.out⟩
 ·go_simp;refine hK.out _ _ HS (λ_=>?_);clear hK;refine rC 16 λK hK=>?_;go_simp;refine hK.out _ _ HS (λ_=>?_);clear hK;refine tC 24 ?_
  try simp only[sD]
  refine rC 25 λK hK=>?_;go_simp;refine hK.out _ _ vE (λ_=>?_);clear hK HS;have HS:=vE;refine tC 26 ?_
  try simp only[sD]
  refine rC 27 λK hK=>?_;go_simp;refine hK.out _ _ HS2 (λ_=>?_);clear hK;refine dD ⟨rfl,?_⟩;generalize hW:((((w.setCell ⟨g,p*2,none⟩ (.int .i64 ((aB L q).i:Nat))).setCell ⟨g,p*2+1,none⟩ (.int .i64 (aB L q).k)).setCell ⟨g,q*2,none⟩ (.int .i64 ((aB L p).i:Nat))).setCell ⟨g,q*2+1,none⟩ (.int .i64 (aB L p).k)).drew=W
  have hM:eT W f S (.slice (some ⟨g,0,none⟩) (dG L p q).length cap) pl (dG L p q):=by
   rw[←hW];have h1:=(H.out.Jb HB.out.1 (aB L q)).Jb (p:=q) hq1 (aB L p);exact h1.keep λ_ _=>rfl
  have hO:Off (f.bl S) w W:=by
   rw[←hW];have hgm:g∈f.bl S:=bY.ak.2 (.inr (.inl HG.out));exact((((((Off.refl _ w).setCell (p:=⟨g,p*2,none⟩) hgm _).setCell (p:=⟨g,p*2+1,none⟩) hgm _).setCell (p:=⟨g,q*2,none⟩) hgm _).setCell (p:=⟨g,q*2+1,none⟩) hgm _)).drew
  have HM:=jh hM;have HO:=jh hO
  have ep:aB (dG L p q) p=aB L q:=by rw[bA HB.out.1 HB.out.2.1];split;(rename_i c;rw[c]);rw[if_pos rfl]
  have eq':aB (dG L p q) q=aB L p:=by rw[bA HB.out.1 HB.out.2.1,if_pos rfl]
  have c2':=hM.c2;have x0:=aD hM.ow (bB (p:=p) (by rw[aI];exact HB.out.1)).1;rw[ep] at x0;rw[aI,HN.out] at c2';have HE:=jh eq';clear hW hM hO HS vE HS2 R1 R2 v0 v1 hq1 fK p0 p1 q0 q1 ep eq' c2;go_wp2_with fail;refine(lN HM.out (i:=(aB L q).i) (v:=p+1) (HI.out q HB.out.2.1) hS om (oC HB.out)).mono ?_;rintro e w3 ⟨rfl,f1,m1,g1,o1⟩;have c2':=m1.c2;have x0:=aD m1.ow (bB (p:=q) (by rw[aI];exact HB.out.2.1)).1;rw[HE.out] at x0;rw[aI,HN.out] at c2';have hsh:=o1.sh;rw[hsh] at c2';have Ki:=jh m1;have fK:=jh o1;have Nv:=jh g1;have HSh:=jh hsh;clear m1 o1 g1 hsh;go_wp2_with fail;rw[←HSh.out];refine(lN Ki.out (i:=(aB L p).i) (v:=q+1) (HI.out p HB.out.1) hS om (oC HB.out)).mono ?_;rintro e w4 ⟨rfl,f2,m2,g2,o2⟩;rw[aI] at m2;have kG:=jh m2;have eG:=jh o2;have HG2:=jh g2;clear m2 o2 g2;go_wp2;go_end0;exact⟨rfl,f2,kG.out,HG2.out.trans Nv.out,yF.trans (yF.trans ⟨HO.out,λ_ h=>.inl h,rfl⟩ fK.out) eG.out⟩
end
def TJ:Option Nat→Int
 |some q=>(q:Nat)
 |none=>-1
section
variable {w:World} {f:bY} {S:Nat} {sv:Value} {pl:Nat→Nat} {L:List En}
theorem xO (h:eT w f S sv pl L) {p:Nat} (hp:p<L.length) (hL:L.length≤65536):
  Calls Tryz.prog 165 #[.pointer (some ⟨f.h,0,none⟩),.int .i64 (p:Nat)] w λe w'=>e=.returned (.int .i64 (TJ (Ib L p)))∧Off [] w w':=by
 obtain⟨g,cap,rfl,hg⟩:=h.sl om;obtain⟨N,hN⟩:=nE L.length
 by_cases h0:p=0
 ·subst h0;have ha:Ib L 0=none:=if_neg om;rw[ha];clear ha h hg hN;go_in;go_wp2_with fail;have HS:(λ_:World=>True) w.drew:=trivial;refine aj (λ_=>True) (by kernel_rfl) ?_;refine tC 0 ?_;refine tC 1 ?_;refine tC 2 ?_;refine sC 3 ?_;refine sC 4 ?_;refine sC 5 ?_;refine sC 6 ?_;refine sC 7 ?_;refine sC 8 ?_;refine sC 9 ?_;refine sC 10 ?_;refine sC 11 ?_;refine sC 12 ?_;refine sC 13 ?_;refine sC 14 ?_;refine sC 15 ?_;refine sC 16 ?_;refine sC 17 ?_;refine sC 18 ?_;refine tC 19 ?_
  try simp only[sD]
  refine dD ⟨rfl,?_⟩;go_wp2;go_ret;exact⟨rfl,(Off.refl _ _).drew⟩
 ·obtain⟨q,hq⟩:=nE ((p-1) / 2)
  have e1:((p:Int)-1).tdiv 2=q:=by rw[Int.tdiv_eq_ediv_of_nonneg om];omega
  have d0:decide ((p:Int)>0)=true:=dP om;have dn:decide (0<p)=true:=dP om;have d0':decide (0<(p:Int))=true:=dP om;have c2:=h.c2;have ho:=h.ow;rw[hN] at c2 ho;have p0:=aD ho (bB hp).1;have p1:=aD ho (bB hp).2;have q0:=aD ho (bB (p:=q) om).1;have q1:=aD ho (bB (p:=q) om).2;have bp:(0:Int)≤p∧(p:Int)<N∧(N:Int)≤65536:=om;have bq:(0:Int)≤q∧(q:Int)<N:=om
  have HA:=jh (show TJ (Ib L p)=if (aB L p).lt (aB L q) then(q:Int) else -1 by
   unfold Ib;rw[hq]
   by_cases c:(aB L p).lt (aB L q)
   ·rw[if_pos ⟨om,c⟩,if_pos c];rfl
   ·rw[if_neg (λe=>c e.2),if_neg c];rfl)
  have H:=jh h;have HB:=jh (And.intro hN (And.intro hp hq));clear h hg hN ho h0 hq hp;go_in;go_wp2_with fail;have HS:w.drew.cell? ⟨f.h,2,none⟩=some (.slice (some ⟨g,0,none⟩) N cap)∧w.drew.cell? ⟨g,p*2,none⟩=some (.int .i64 ((aB L p).i:Nat))∧w.drew.cell? ⟨g,p*2+1,none⟩=some (.int .i64 (aB L p).k)∧w.drew.cell? ⟨g,q*2,none⟩=some (.int .i64 ((aB L q).i:Nat))∧w.drew.cell? ⟨g,q*2+1,none⟩=some (.int .i64 (aB L q).k):=⟨c2,p0.1,p1.1,q0.1,q1.1⟩;refine aj (λw'=>w'.cell? ⟨f.h,2,none⟩=some (.slice (some ⟨g,0,none⟩) N cap)∧w'.cell? ⟨g,p*2,none⟩=some (.int .i64 ((aB L p).i:Nat))∧w'.cell? ⟨g,p*2+1,none⟩=some (.int .i64 (aB L p).k)∧w'.cell? ⟨g,q*2,none⟩=some (.int .i64 ((aB L q).i:Nat))∧w'.cell? ⟨g,q*2+1,none⟩=some (.int .i64 (aB L q).k)) (by kernel_rfl) ?_;refine tC 0 ?_;refine tC 1 ?_
  try simp only[sD]
  try rw[dn]
  refine tC 2 ?_;refine tC 3 ?_;refine tC 4 ?_;refine tC 5 ?_;refine tC 6 ?_;refine tC 7 ?_;refine tC 8 ?_;refine tC 9 ?_;refine tC 10 ?_;refine tC 11 ?_;refine tC 12 ?_;refine tC 13 ?_;refine tC 14 ?_;refine tC 15 ?_;refine tC 16 ?_
  try simp only[sD]
  refine rC 17 λK hK=>?_;go_simp;refine(xH (aB L p) (aB L q) w.drew).mono ?_;rintro e w3 ⟨rfl,o3⟩;dsimp only;have hk:=fun(j:Nat) (hj:j<w.heap.size)=>o3.block j hj sj
  have EZ:w3.cell? ⟨f.h,2,none⟩=some (.slice (some ⟨g,0,none⟩) N cap)∧w3.cell? ⟨g,p*2,none⟩=some (.int .i64 ((aB L p).i:Nat))∧w3.cell? ⟨g,p*2+1,none⟩=some (.int .i64 (aB L p).k)∧w3.cell? ⟨g,q*2,none⟩=some (.int .i64 ((aB L q).i:Nat))∧w3.cell? ⟨g,q*2+1,none⟩=some (.int .i64 (aB L q).k):=by
   have hh:=H.out.keep λj hj=>hk j (H.out.lt hj);have hi':=aD hh.ow (bB (p:=p) (oC HB.out)).1;have hi2:=aD hh.ow (bB (p:=p) (oC HB.out)).2;have hi3:=aD hh.ow (bB (p:=q) (oC HB.out)).1;have hi4:=aD hh.ow (bB (p:=q) (oC HB.out)).2;have hc:=hh.c2;rw[HB.out.1] at hc;exact⟨hc,hi'.1,hi2.1,hi3.1,hi4.1⟩
  refine hK.out _ _ EZ (λHS=>?_);clear hK;obtain⟨r,hr⟩:=nE (Lf (aB L p) (aB L q));have hrl:=Jl (aB L p) (aB L q);rw[hr] at hrl⊢;have HA:=HA.out;have dh:=jh (((Off.refl [] w).drew).trans o3 (λj hj=>nomatch hj))
  by_cases hlt:r<0
  ·rw[if_pos (hrl.1 hlt)] at HA;have HA:=jh HA;have dr:decide (r<0)=true:=dP hlt;clear hrl hr hlt EZ hk o3;refine tC 18 ?_;refine tC 19 ?_
   try simp only[sD]
   refine dD ⟨rfl,?_⟩;go_wp2;go_ret;exact⟨by rw[HA.out];rfl,dh.out⟩
  ·rw[if_neg (λe=>hlt (hrl.2 e))] at HA;have HA:=jh HA;have dr:decide (r<0)=false:=dF hlt;clear hrl hr hlt EZ hk o3;refine tC 18 ?_;refine tC 19 ?_
   try simp only[sD]
   refine dD ⟨rfl,?_⟩;go_wp2;go_ret;exact⟨by rw[HA.out];rfl,dh.out⟩
end
def Ua (L:List En) (p:Nat):Nat→Nat
 |0=>p
 |1=>Hw L p (2*p+1)
 |_=>Hw L (Hw L p (2*p+1)) (2*p+2)
theorem SG (L:List En) (p s:Nat) (h:s<2):Ua L p (s+1)=Hw L (Ua L p s) (2*p+1+s):=by
 have:s=0∨s=1:=om
 rcases this with rfl |rfl<;>rfl
theorem aai {L:List En} {p:Nat} (hp:p<L.length) (s:Nat) (h:s≤2):Ua L p s<L.length:=by
 have key:∀f q,f<L.length→Hw L f q<L.length:=λf q hf=>by
  rcases iW L f q with⟨e,l,_⟩ |⟨e,_⟩
  ·rw[e];exact l
  ·rw[e];exact hf
 have:s=0∨s=1∨s=2:=om
 rcases this with rfl |rfl |rfl
 ·exact hp
 ·exact key _ _ hp
 ·exact key _ _ (key _ _ hp)
section
variable {w:World} {f:bY} {S:Nat} {sv:Value} {pl:Nat→Nat} {L:List En}
theorem xL (h:eT w f S sv pl L) {p:Nat} (hp:p<L.length) (hL:L.length≤65536):
  Calls Tryz.prog 166 #[.pointer (some ⟨f.h,0,none⟩),.int .i64 (p:Nat)] w λe w'=>e=.returned (.int .i64 (TJ (CG L p)))∧Off [] w w':=by
 obtain⟨g,cap,rfl,hg⟩:=h.sl om;obtain⟨N,hN⟩:=nE L.length;have H:=jh h;have HB:=jh (And.intro hN (And.intro hp hL));have bp:(0:Int)≤p∧(p:Int)≤65536:=om;clear h hp hL hg hN;go_in;go_wp2
 go_loopg [5,9] 2 (λM fv iv wr=>∃s x:Nat,M+s=2∧x=Ua L p s∧fv=.int .i64 x∧iv=.int .i64 s∧Hid (Off [] w wr))
 case atStart=>exact⟨0,p,rfl,rfl,rfl,rfl,jh (Off.refl _ _)⟩
 case round=>
  obtain⟨s,x,hM,hx,rfl,rfl,HO⟩:=hrel
  have hxl:x<N:=by rw[←HB.out.1,hx];exact aai HB.out.2.1 s om
  by_cases hs:s<2
  ·have ds:decide ((s:Int)<2)=true:=dP om;obtain⟨q,hq⟩:=nE (2*p+1+s);have eq1:2*(p:Int)+1+s=q:=om;have bs:(0:Int)≤s∧(s:Int)<2:=om;have bq0:(0:Int)≤q∧(q:Int)≤131074:=om;have hb:=SG L p s hs;rw[hq,←hx] at hb;have HW:=jh (H.out.keep (w':=wr) λj hj=>HO.out.block j (H.out.lt hj) sj);have c2:=HW.out.c2;rw[HB.out.1] at c2
   by_cases zR:q<N
   ·have dq:decide (q<N)=true:=dP zR;have ho:=HW.out.ow;rw[HB.out.1] at ho;have q0:=aD ho (bB (p:=q) (oC HB.out)).1;have q1:=aD ho (bB (p:=q) (oC HB.out)).2;have x0:=aD ho (bB (p:=x) (oC HB.out)).1;have x1:=aD ho (bB (p:=x) (oC HB.out)).2;have bq:(0:Int)≤q∧(q:Int)<N:=om;have bxx:(0:Int)≤x∧(x:Int)<N:=om;have HQ:=jh hb;clear ho hb hx;go_wp2_with fail;have HS:wr.drew.cell? ⟨f.h,2,none⟩=some (.slice (some ⟨g,0,none⟩) N cap)∧wr.drew.cell? ⟨g,q*2,none⟩=some (.int .i64 ((aB L q).i:Nat))∧wr.drew.cell? ⟨g,q*2+1,none⟩=some (.int .i64 (aB L q).k)∧wr.drew.cell? ⟨g,x*2,none⟩=some (.int .i64 ((aB L x).i:Nat))∧wr.drew.cell? ⟨g,x*2+1,none⟩=some (.int .i64 (aB L x).k):=⟨c2,q0.1,q1.1,x0.1,x1.1⟩;refine aj (λw'=>w'.cell? ⟨f.h,2,none⟩=some (.slice (some ⟨g,0,none⟩) N cap)∧w'.cell? ⟨g,q*2,none⟩=some (.int .i64 ((aB L q).i:Nat))∧w'.cell? ⟨g,q*2+1,none⟩=some (.int .i64 (aB L q).k)∧w'.cell? ⟨g,x*2,none⟩=some (.int .i64 ((aB L x).i:Nat))∧w'.cell? ⟨g,x*2+1,none⟩=some (.int .i64 (aB L x).k)) (by kernel_rfl) ?_;refine tC 0 ?_;refine tC 1 ?_;refine tC 2 ?_;refine tC 3 ?_;refine tC 4 ?_;refine tC 5 ?_;refine tC 6 ?_;refine tC 7 ?_;refine tC 8 ?_;refine tC 9 ?_;refine tC 10 ?_;refine tC 11 ?_;refine tC 12 ?_;refine tC 13 ?_;refine tC 14 ?_;refine tC 15 ?_;refine tC 16 ?_;refine tC 17 ?_;refine tC 18 ?_;refine tC 19 ?_;refine tC 20 ?_;refine tC 21 ?_
    try simp only[sD]
    refine rC 22 λK hK=>?_;go_simp;refine(xH (aB L q) (aB L x) wr.drew).mono ?_;rintro e w3 ⟨rfl,o3⟩;dsimp only
    have EZ:w3.cell? ⟨f.h,2,none⟩=some (.slice (some ⟨g,0,none⟩) N cap)∧w3.cell? ⟨g,q*2,none⟩=some (.int .i64 ((aB L q).i:Nat))∧w3.cell? ⟨g,q*2+1,none⟩=some (.int .i64 (aB L q).k)∧w3.cell? ⟨g,x*2,none⟩=some (.int .i64 ((aB L x).i:Nat))∧w3.cell? ⟨g,x*2+1,none⟩=some (.int .i64 (aB L x).k):=by
     have hh:=HW.out.keep (w':=w3) λj hj=>o3.block j (HW.out.lt hj) sj;have hi':=aD hh.ow (bB (p:=q) (oC HB.out)).1;have hi2:=aD hh.ow (bB (p:=q) (oC HB.out)).2;have hi3:=aD hh.ow (bB (p:=x) (oC HB.out)).1;have hi4:=aD hh.ow (bB (p:=x) (oC HB.out)).2;have hc:=hh.c2;rw[HB.out.1] at hc;exact⟨hc,hi'.1,hi2.1,hi3.1,hi4.1⟩
    refine hK.out _ _ EZ (λHS=>?_);clear hK;obtain⟨r,hr⟩:=nE (Lf (aB L q) (aB L x));have hrl:=Jl (aB L q) (aB L x);rw[hr] at hrl⊢;have dh:=jh ((HO.out.drew).trans o3 (λj hj=>nomatch hj))
    by_cases hlt:r<0
    ·have HX:Hid (q=Ua L p (s+1)):=jh (by rw[HQ.out];unfold Hw;rw[if_pos ⟨by rw[HB.out.1];exact zR,hrl.1 hlt⟩]);have dr:decide (r<0)=true:=dP hlt;clear hrl hr hlt EZ o3 HO;refine tC 23 ?_;refine tC 24 ?_
     try simp only[sD]
     refine dD ⟨rfl,?_⟩;go_wp2
     go_roundg (1-s)
     case measure=>omega
     case rel=>exact⟨s+1,_,om,HX.out,rfl,by push_cast;rfl,dh⟩
    ·have HX:Hid (x=Ua L p (s+1)):=jh (by rw[HQ.out];unfold Hw;rw[if_neg (λe=>hlt (hrl.2 e.2))]);have dr:decide (r<0)=false:=dF hlt;clear hrl hr hlt EZ o3 HO;refine tC 23 ?_;refine tC 24 ?_
     try simp only[sD]
     refine dD ⟨rfl,?_⟩;go_wp2
     go_roundg (1-s)
     case measure=>omega
     case rel=>exact⟨s+1,_,om,HX.out,rfl,by push_cast;rfl,dh⟩
   ·have dq:decide (q<N)=false:=dF zR;have HQ:Hid (Ua L p (s+1)=x):=jh (by rw[hb];unfold Hw;rw[if_neg (λe=>zR (by rw[←HB.out.1];exact e.1))]);clear hb hx;go_wp2_with fail;have HS:wr.drew.cell? ⟨f.h,2,none⟩=some (.slice (some ⟨g,0,none⟩) N cap):=c2;refine aj (λw'=>w'.cell? ⟨f.h,2,none⟩=some (.slice (some ⟨g,0,none⟩) N cap)) (by kernel_rfl) ?_;refine tC 0 ?_;refine tC 1 ?_;refine tC 2 ?_;refine tC 3 ?_;refine tC 4 ?_;refine tC 5 ?_;refine tC 6 ?_;refine tC 7 ?_;refine sC 8 ?_;refine sC 9 ?_;refine sC 10 ?_;refine sC 11 ?_;refine sC 12 ?_;refine sC 13 ?_;refine sC 14 ?_;refine sC 15 ?_;refine sC 16 ?_;refine sC 17 ?_;refine sC 18 ?_;refine sC 19 ?_;refine sC 20 ?_;refine sC 21 ?_;refine sC 22 ?_;refine sC 23 ?_;refine tC 24 ?_
    try simp only[sD]
    refine dD ⟨rfl,?_⟩;go_wp2
    go_roundg (1-s)
    case measure=>omega
    case rel=>exact⟨s+1,_,om,HQ.out.symm,rfl,by push_cast;rfl,jh HO.out.drew⟩
  ·have ds:decide ((s:Int)<2)=false:=dF om;obtain rfl:s=2:=om
   have HA:=jh (show TJ (CG L p)=if x=p then -1 else(x:Int) by
    rw[hx];show TJ (if Ua L p 2=p then none else some (Ua L p 2))=_
    by_cases c:Ua L p 2=p
    ·rw[if_pos c,if_pos c];rfl
    ·rw[if_neg c,if_neg c];rfl)
   by_cases hxp:x=p
   ·have de:(((x:Nat):Int)==p)=true:=by simp[hxp]
    have de':(x==p)=true:=by simp[hxp]
    have HXP:=jh hxp;clear hxp hx;go_wp2;go_ret;exact⟨by rw[HA.out,if_pos HXP.out];rfl,HO.out⟩
   ·have de:(((x:Nat):Int)==p)=false:=by simp;omega
    have de':(x==p)=false:=by simp[hxp]
    have HXP:=jh hxp;clear hxp hx;go_wp2;go_ret;exact⟨by rw[HA.out,if_neg HXP.out];rfl,HO.out⟩
end
def Ud (sel:List En→Nat→Option Nat):Nat→List En→Nat→List En→Nat→Prop
 |0,L,p,L',p'=>sel L p=none∧L'=L∧p'=p
 |k+1,L,p,L',p'=>∃q,sel L p=some q∧q<L.length∧Ud sel k (dG L p q) q L' p'
theorem XM.sift {L:List En} {p:Nat} (h:XM L p):∃k L' p',Ud Ib k L p L' p'∧Hp L'∧p'<L'.length∧L'.length=L.length∧∀e,e∈L'↔e∈L:=by
 induction p using Nat.strongRecOn generalizing L with
 |_ p ih=>
  cases c:Ib L p with
  |none=>exact⟨0,L,p,⟨c,rfl,rfl⟩,h.heap c,h.lt,rfl,λ_=>Iff.rfl⟩
  |some q=>
   obtain⟨h1,h2⟩:=h.step c;obtain⟨k,L',p',k1,k2,k3,k4,k5⟩:=ih q h1 h2;have hl:=h.lt;exact⟨k+1,L',p',⟨q,c,om,k1⟩,k2,k3,by rw[k4,aI],λe=>(k5 e).trans (Db hl om e)⟩
theorem WO.sift {L:List En} {p:Nat} (h:WO L p):∃k L' p',Ud CG k L p L' p'∧Hp L'∧L'.length=L.length∧∀e,e∈L'↔e∈L:=by
 obtain⟨m,hm⟩:=nE (L.length-p)
 induction m using Nat.strongRecOn generalizing L p with
 |_ m ih=>
  cases c:CG L p with
  |none=>exact⟨0,L,p,⟨c,rfl,rfl⟩,h.heap c,rfl,λ_=>Iff.rfl⟩
  |some q=>
   obtain⟨h1,h2,h3⟩:=h.step c;have hl:=h.lt;obtain⟨k,L',p',k1,k2,k4,k5⟩:=ih (L.length-q) om h3 (by rw[aI]);exact⟨k+1,L',p',⟨q,c,h2,k1⟩,k2,by rw[k4,aI],λe=>(k5 e).trans (Db hl h2 e)⟩
theorem Hp.CG {L:List En} (h:Hp L) (p:Nat):CG L p=none:=by
 cases c:Go.Proofs.YtpaeogglppampaaGreatDoor.CG L p with
 |none=>rfl
 |some q=>
  obtain⟨h1,h2,h3,_⟩:=EO c;have:=h q om h1;rw[show(q-1) / 2=p by omega] at this;exact absurd h3 this
def UZ (L:List En) (pl:Nat→Nat) (p q:Nat):Nat→Nat:=λj=>if j=(aB L p).i then q+1 else if j=(aB L q).i then p+1 else pl j
theorem gU.swp {S:Nat} {pl:Nat→Nat} {L:List En} (h:gU S pl L) {p q:Nat} (hp:p<L.length) (hq:q<L.length):gU S (UZ L pl p q) (dG L p q):=by
 have inj:∀a b,a<L.length→b<L.length→(aB L a).i=(aB L b).i→a=b:=λa b ha hb e=>by
  have h1:=h.at_ a ha;have h2:=h.at_ b hb;rw[e] at h1;omega
 refine⟨λx hx=>?_,λx hx=>?_,λi hi h0=>?_⟩
 ·rw[aI] at hx;rw[bA hp hq]
  split
  ·exact h.lt p hp
  ·split
   ·exact h.lt q hq
   ·exact h.lt x hx
 ·rw[aI] at hx;rw[bA hp hq];unfold UZ
  by_cases c1:x=q
  ·rw[if_pos c1,if_pos rfl,c1]
  ·rw[if_neg c1]
   by_cases c2:x=p
   ·rw[if_pos c2]
    by_cases c3:(aB L q).i=(aB L p).i
    ·rw[if_pos c3];have:=inj q p hq hp c3;omega
    ·rw[if_neg c3,if_pos rfl,c2]
   ·rw[if_neg c2,if_neg (λe=>c2 (inj x p hx hp e)),if_neg (λe=>c1 (inj x q hx hq e))];exact h.at_ x hx
 ·rw[aI];unfold UZ at h0⊢
  by_cases c1:i=(aB L p).i
  ·rw[if_pos c1];refine⟨om,?_⟩;rw[show q+1-1=q by omega,bA hp hq,if_pos rfl,c1]
  ·rw[if_neg c1] at h0⊢
   by_cases c2:i=(aB L q).i
   ·rw[if_pos c2];refine⟨om,?_⟩;rw[show p+1-1=p by omega,bA hp hq]
    by_cases c3:p=q
    ·rw[if_pos c3,c2,c3]
    ·rw[if_neg c3,if_pos rfl,c2]
   ·rw[if_neg c2] at h0⊢;obtain⟨k1,k2⟩:=h.inv i hi h0;refine⟨k1,?_⟩;rw[bA hp hq]
    by_cases c3:pl i-1=q
    ·exact absurd (by rw[←k2,c3]) c2
    ·rw[if_neg c3]
     by_cases c4:pl i-1=p
     ·exact absurd (by rw[←k2,c4]) c1
     ·rw[if_neg c4];exact k2
theorem Dz:TJ none=-1:=rfl
section
variable {w:World} {f:bY} {S:Nat} {sv:Value} {pl:Nat→Nat} {L:List En}
theorem Ma (h:eT w f S sv pl L) (ho:gU S pl L) {k p p' pb hb:Nat} {L':List En} (hs:Ud Ib k L p L' p') (hp:p<L.length) (hL:L.length≤65536) (hS:S≤65536)
  (hpb:Row w pb 1 (λ_=>.int .i64 (p:Nat))) (Gz:Row w hb 1 (λ_=>.pointer (some ⟨f.h,0,none⟩))) (np:pb∉f.bl S) (nh:hb∉f.bl S) (ne:hb≠pb):
  Calls Tryz.prog 164 #[.func (.func 165) #[.pointer (some ⟨f.h,0,none⟩)] #[],.pointer (some ⟨pb,0,none⟩),.pointer (some ⟨hb,0,none⟩)] w λe w'=>e=.returned (.tuple #[])∧∃f' Ck,eT w' f' S sv Ck L'∧gU S Ck L'∧p'<L'.length∧L'.length=L.length∧f'.g=f.g∧f'.h=f.h∧Row w' pb 1 (λ_=>.int .i64 (p':Nat))∧w'.heap[hb]?=w.heap[hb]?∧Off (pb::f.bl S) w w'∧∀j∈f'.bl S,j∈f.bl S∨w.heap.size≤j:=by
 obtain⟨N,hN⟩:=nE L.length;obtain⟨hh,Gy⟩:=nE f.h;have c0:=hpb.c 0;have c1:=Gz.c 0;rw[Gy] at c1 Gz;have HX:=jh (xO h hp hL);rw[Gy] at HX;have HH:=jh h;have HO:=jh ho;have HS:=jh hs;have HB:=jh (And.intro hN (And.intro hp (And.intro hL hS)));have HP:=jh hpb;have HQ:=jh Gz;have HE:=jh (And.intro np (And.intro nh ne));have HF:=jh Gy;rw[Gy];clear h ho hs hp hL hS hpb Gz np nh ne hN Gy;go_in;go_wp2_with fail;apply mO HX;rintro e w1 ⟨rfl,o1⟩;have fK:=jh o1;clear o1 HX c0 c1;go_wp2
 go_loopg [4] k (λM qv wr=>∃f1 Jg L1 p1,Hid (Ud Ib M L1 p1 L' p')∧Hid (p1<L1.length∧L1.length=N)∧qv=.int .i64 (TJ (Ib L1 p1))∧Hid (eT wr f1 S sv Jg L1)∧Hid (gU S Jg L1)∧Hid (f1.g=f.g∧f1.h=hh)∧Hid (Row wr pb 1 (λ_=>.int .i64 p1))∧Hid (wr.heap[hb]?=w.heap[hb]?)∧Hid (Off (pb::f.bl S) w wr)∧Hid (∀j∈f1.bl S,j∈f.bl S∨w.heap.size≤j))
 case atStart=>
  have hw:∀j<w.heap.size,w1.heap[j]?=w.heap[j]?:=λj hj=>fK.out.block j hj sj;exact⟨f,pl,L,p,HS,jh ⟨HB.out.2.1,HB.out.1⟩,rfl,jh (HH.out.keep λj hj=>hw j (HH.out.lt hj)),HO,jh ⟨rfl,HF.out⟩,jh (HP.out.of_block (hw _ HP.out.lt)),jh (hw _ HQ.out.lt),jh (fK.out.mono λj hj=>by cases hj),jh λj hj=>.inl hj⟩
 case round=>
  obtain⟨f1,Jg,L1,p1,KS,KB,rfl,KM,KO,KF,KP,KQ,Tg,KG⟩:=hrel;clear fK;have c0:=KP.out.c 0;have fz:=KP.out.frozen 0;have c1:=(HQ.out.of_block KQ.out).c 0
  cases gk with
  |zero=>
   obtain⟨s1,s2,s3⟩:=KS.out;rw[s1];have KE:=jh (And.intro s2 s3);clear s1 s2 s3;rw[Dz];go_wp2;go_end0;refine⟨rfl,f1,Jg,?_⟩;rw[KE.out.1,KE.out.2];exact⟨KM.out,KO.out,KB.out.1,KB.out.2.trans HB.out.1.symm,KF.out.1,KF.out.2,KP.out,KQ.out,Tg.out,KG.out⟩
  |succ M=>
   obtain⟨q,s1,s2,s3⟩:=KS.out;rw[s1];show _;have e1:TJ (some q)=(q:Int):=rfl;rw[e1];have bq:(0:Int)≤q∧(q:Int)≤65536:=oD KB.out HB.out;have dq:(((q:Nat):Int)==(-1:Int))=false:=sj;have KX:=jh (uI KM.out KB.out.1 s2 (oD KB.out HB.out) HB.out.2.2.2 KO.out.lt);rw[KF.out.2] at KX;have KS2:=jh s3;have WM:=jh s2;clear s1 s2 s3 e1;go_wp2_with fail;apply mO KX;rintro e w2 ⟨rfl,f2,m2,g2,o2⟩;have hk:∀j<wr.heap.size,j∉f1.bl S→w2.heap[j]?=wr.heap[j]?:=λj hj hn=>o2.off.block j hj hn;have nf:∀j<w.heap.size,j∉f.bl S→j∉f1.bl S:=λj hj hn c=>(KG.out j c).elim hn λe=>om;have hp2:Row w2 pb 1 (λ_=>.int .i64 p1):=KP.out.of_block (hk _ KP.out.lt (nf _ HP.out.lt HE.out.1));have hq2:w2.heap[hb]?=w.heap[hb]?:=(hk _ (Nat.lt_of_lt_of_le HQ.out.lt Tg.out.size) (nf _ HQ.out.lt HE.out.2.1)).trans KQ.out;have Xl:Off (pb::f.bl S) w w2:=Tg.out.trans o2.off λj hj=>(KG.out j hj).elim (λe=>.inl (List.mem_cons_of_mem _ e)) .inr;have TS:∀j∈f2.bl S,j∈f.bl S∨w.heap.size≤j:=λj hj=>(o2.fQ j hj).elim (KG.out j) λe=>.inr (Nat.le_trans Tg.out.size e);have po2:gU S (UZ L1 Jg p1 q) (dG L1 p1 q):=KO.out.swp KB.out.1 WM.out;have c0:=hp2.c 0;have fz:=hp2.frozen 0;have c1:=(HQ.out.of_block hq2).c 0;have npb:∀j∈f2.bl S,j≠pb:=λj hj e=>(TS j hj).elim (λc=>HE.out.1 (e▸c)) λc=>oC HP.out.lt;have m3:eT (w2.setCell ⟨pb,0,none⟩ (.int .i64 q)) f2 S sv (UZ L1 Jg p1 q) (dG L1 p1 q):=eT.keep (w:=w2) m2 λj hj=>aC j (npb j (bY.ak.2 hj));have hp3:Row (w2.setCell ⟨pb,0,none⟩ (.int .i64 q)) pb 1 (λ_=>.int .i64 q):=(hp2.set 0 (.int .i64 q)).congr λi hi=>if_pos om;have hq3:(w2.setCell ⟨pb,0,none⟩ (.int .i64 q)).heap[hb]?=w.heap[hb]?:=(aC hb HE.out.2.2).trans hq2;have of3:Off (pb::f.bl S) w (w2.setCell ⟨pb,0,none⟩ (.int .i64 q)):=Xl.setCell (p:=⟨pb,0,none⟩) sj _;have c2:=hp3.c 0;have c3:=(HQ.out.of_block hq3).c 0;have hf2:f2.h=hh:=o2.sh.trans KF.out.2;have KX2:=jh (xO m3 (p:=q) (by rw[aI];exact WM.out) (by rw[aI];have:=KB.out;have:=HB.out;omega));rw[hf2] at KX2;have M3:=jh m3;have P3:=jh hp3;have Q3:=jh hq3;have O3:=jh of3;have G3:=jh TS;have F3:=jh (And.intro (g2.trans KF.out.1) hf2);have PO3:=jh po2;have KB3:Hid (q<(dG L1 p1 q).length∧(dG L1 p1 q).length=N):=jh (by rw[aI];exact⟨WM.out,KB.out.2⟩);clear m2 g2 o2 hk nf hp2 hq2 Xl TS po2 npb m3 hp3 hq3 of3 hf2 KX KS KO KM KF KP KQ Tg KG WM KB;go_wp2_with fail;apply mO KX2;rintro e w4 ⟨rfl,o4⟩;have O4:=jh o4;clear o4 c2 c3 c0 c1 fz KX2;go_wp2
   go_roundg M
   case measure=>omega
   case rel=>
    have hb4:∀j<(w2.setCell ⟨pb,0,none⟩ (.int .i64 q)).heap.size,w4.heap[j]?=(w2.setCell ⟨pb,0,none⟩ (.int .i64 q)).heap[j]?:=λj hj=>O4.out.block j hj sj;exact⟨f2,_,_,q,KS2,KB3,rfl,jh (M3.out.keep λj hj=>hb4 j (M3.out.lt hj)),PO3,F3,jh (P3.out.of_block (hb4 _ P3.out.lt)),jh ((hb4 _ (Nat.lt_of_lt_of_le HQ.out.lt O3.out.size)).trans Q3.out),jh (O3.out.trans O4.out λj hj=>by cases hj),G3⟩
theorem L9 (h:eT w f S sv pl L) (ho:gU S pl L) {k p p' pb hb:Nat} {L':List En} (hs:Ud CG k L p L' p') (hp:p<L.length) (hL:L.length≤65536) (hS:S≤65536)
  (hpb:Row w pb 1 (λ_=>.int .i64 (p:Nat))) (Gz:Row w hb 1 (λ_=>.pointer (some ⟨f.h,0,none⟩))) (np:pb∉f.bl S) (nh:hb∉f.bl S) (ne:hb≠pb):
  Calls Tryz.prog 164 #[.func (.func 166) #[.pointer (some ⟨f.h,0,none⟩)] #[],.pointer (some ⟨pb,0,none⟩),.pointer (some ⟨hb,0,none⟩)] w λe w'=>e=.returned (.tuple #[])∧∃f' Ck,eT w' f' S sv Ck L'∧gU S Ck L'∧p'<L'.length∧L'.length=L.length∧f'.g=f.g∧f'.h=f.h∧Row w' pb 1 (λ_=>.int .i64 (p':Nat))∧w'.heap[hb]?=w.heap[hb]?∧Off (pb::f.bl S) w w'∧∀j∈f'.bl S,j∈f.bl S∨w.heap.size≤j:=by
 obtain⟨N,hN⟩:=nE L.length;obtain⟨hh,Gy⟩:=nE f.h;have c0:=hpb.c 0;have c1:=Gz.c 0;rw[Gy] at c1 Gz;have HX:=jh (xL h hp hL);rw[Gy] at HX;have HH:=jh h;have HO:=jh ho;have HS:=jh hs;have HB:=jh (And.intro hN (And.intro hp (And.intro hL hS)));have HP:=jh hpb;have HQ:=jh Gz;have HE:=jh (And.intro np (And.intro nh ne));have HF:=jh Gy;rw[Gy];clear h ho hs hp hL hS hpb Gz np nh ne hN Gy;go_in;go_wp2_with fail;apply mO HX;rintro e w1 ⟨rfl,o1⟩;have fK:=jh o1;clear o1 HX c0 c1;go_wp2
 go_loopg [4] k (λM qv wr=>∃f1 Jg L1 p1,Hid (Ud CG M L1 p1 L' p')∧Hid (p1<L1.length∧L1.length=N)∧qv=.int .i64 (TJ (CG L1 p1))∧Hid (eT wr f1 S sv Jg L1)∧Hid (gU S Jg L1)∧Hid (f1.g=f.g∧f1.h=hh)∧Hid (Row wr pb 1 (λ_=>.int .i64 p1))∧Hid (wr.heap[hb]?=w.heap[hb]?)∧Hid (Off (pb::f.bl S) w wr)∧Hid (∀j∈f1.bl S,j∈f.bl S∨w.heap.size≤j))
 case atStart=>
  have hw:∀j<w.heap.size,w1.heap[j]?=w.heap[j]?:=λj hj=>fK.out.block j hj sj;exact⟨f,pl,L,p,HS,jh ⟨HB.out.2.1,HB.out.1⟩,rfl,jh (HH.out.keep λj hj=>hw j (HH.out.lt hj)),HO,jh ⟨rfl,HF.out⟩,jh (HP.out.of_block (hw _ HP.out.lt)),jh (hw _ HQ.out.lt),jh (fK.out.mono λj hj=>by cases hj),jh λj hj=>.inl hj⟩
 case round=>
  obtain⟨f1,Jg,L1,p1,KS,KB,rfl,KM,KO,KF,KP,KQ,Tg,KG⟩:=hrel;clear fK;have c0:=KP.out.c 0;have fz:=KP.out.frozen 0;have c1:=(HQ.out.of_block KQ.out).c 0
  cases gk with
  |zero=>
   obtain⟨s1,s2,s3⟩:=KS.out;rw[s1];have KE:=jh (And.intro s2 s3);clear s1 s2 s3;rw[Dz];go_wp2;go_end0;refine⟨rfl,f1,Jg,?_⟩;rw[KE.out.1,KE.out.2];exact⟨KM.out,KO.out,KB.out.1,KB.out.2.trans HB.out.1.symm,KF.out.1,KF.out.2,KP.out,KQ.out,Tg.out,KG.out⟩
  |succ M=>
   obtain⟨q,s1,s2,s3⟩:=KS.out;rw[s1];show _;have e1:TJ (some q)=(q:Int):=rfl;rw[e1];have bq:(0:Int)≤q∧(q:Int)≤65536:=oD KB.out HB.out;have dq:(((q:Nat):Int)==(-1:Int))=false:=sj;have KX:=jh (uI KM.out KB.out.1 s2 (oD KB.out HB.out) HB.out.2.2.2 KO.out.lt);rw[KF.out.2] at KX;have KS2:=jh s3;have WM:=jh s2;clear s1 s2 s3 e1;go_wp2_with fail;apply mO KX;rintro e w2 ⟨rfl,f2,m2,g2,o2⟩;have hk:∀j<wr.heap.size,j∉f1.bl S→w2.heap[j]?=wr.heap[j]?:=λj hj hn=>o2.off.block j hj hn;have nf:∀j<w.heap.size,j∉f.bl S→j∉f1.bl S:=λj hj hn c=>(KG.out j c).elim hn λe=>om;have hp2:Row w2 pb 1 (λ_=>.int .i64 p1):=KP.out.of_block (hk _ KP.out.lt (nf _ HP.out.lt HE.out.1));have hq2:w2.heap[hb]?=w.heap[hb]?:=(hk _ (Nat.lt_of_lt_of_le HQ.out.lt Tg.out.size) (nf _ HQ.out.lt HE.out.2.1)).trans KQ.out;have Xl:Off (pb::f.bl S) w w2:=Tg.out.trans o2.off λj hj=>(KG.out j hj).elim (λe=>.inl (List.mem_cons_of_mem _ e)) .inr;have TS:∀j∈f2.bl S,j∈f.bl S∨w.heap.size≤j:=λj hj=>(o2.fQ j hj).elim (KG.out j) λe=>.inr (Nat.le_trans Tg.out.size e);have po2:gU S (UZ L1 Jg p1 q) (dG L1 p1 q):=KO.out.swp KB.out.1 WM.out;have c0:=hp2.c 0;have fz:=hp2.frozen 0;have c1:=(HQ.out.of_block hq2).c 0;have npb:∀j∈f2.bl S,j≠pb:=λj hj e=>(TS j hj).elim (λc=>HE.out.1 (e▸c)) λc=>oC HP.out.lt;have m3:eT (w2.setCell ⟨pb,0,none⟩ (.int .i64 q)) f2 S sv (UZ L1 Jg p1 q) (dG L1 p1 q):=eT.keep (w:=w2) m2 λj hj=>aC j (npb j (bY.ak.2 hj));have hp3:Row (w2.setCell ⟨pb,0,none⟩ (.int .i64 q)) pb 1 (λ_=>.int .i64 q):=(hp2.set 0 (.int .i64 q)).congr λi hi=>if_pos om;have hq3:(w2.setCell ⟨pb,0,none⟩ (.int .i64 q)).heap[hb]?=w.heap[hb]?:=(aC hb HE.out.2.2).trans hq2;have of3:Off (pb::f.bl S) w (w2.setCell ⟨pb,0,none⟩ (.int .i64 q)):=Xl.setCell (p:=⟨pb,0,none⟩) sj _;have c2:=hp3.c 0;have c3:=(HQ.out.of_block hq3).c 0;have hf2:f2.h=hh:=o2.sh.trans KF.out.2;have KX2:=jh (xL m3 (p:=q) (by rw[aI];exact WM.out) (by rw[aI];have:=KB.out;have:=HB.out;omega));rw[hf2] at KX2;have M3:=jh m3;have P3:=jh hp3;have Q3:=jh hq3;have O3:=jh of3;have G3:=jh TS;have F3:=jh (And.intro (g2.trans KF.out.1) hf2);have PO3:=jh po2;have KB3:Hid (q<(dG L1 p1 q).length∧(dG L1 p1 q).length=N):=jh (by rw[aI];exact⟨WM.out,KB.out.2⟩);clear m2 g2 o2 hk nf hp2 hq2 Xl TS po2 npb m3 hp3 hq3 of3 hf2 KX KS KO KM KF KP KQ Tg KG WM KB;go_wp2_with fail;apply mO KX2;rintro e w4 ⟨rfl,o4⟩;have O4:=jh o4;clear o4 c2 c3 c0 c1 fz KX2;go_wp2
   go_roundg M
   case measure=>omega
   case rel=>
    have hb4:∀j<(w2.setCell ⟨pb,0,none⟩ (.int .i64 q)).heap.size,w4.heap[j]?=(w2.setCell ⟨pb,0,none⟩ (.int .i64 q)).heap[j]?:=λj hj=>O4.out.block j hj sj;exact⟨f2,_,_,q,KS2,KB3,rfl,jh (M3.out.keep λj hj=>hb4 j (M3.out.lt hj)),PO3,F3,jh (P3.out.of_block (hb4 _ P3.out.lt)),jh ((hb4 _ (Nat.lt_of_lt_of_le HQ.out.lt O3.out.size)).trans Q3.out),jh (O3.out.trans O4.out λj hj=>by cases hj),G3⟩
end
section
variable {w w':World} {f:bY} {S:Nat} {sv:Value} {pl:Nat→Nat} {L:List En}
theorem yF.bo {f f':bY} (h:yF f f' S w w'):Bo (f.bl S) (f'.bl S) w w':=⟨h.off,h.fQ⟩
theorem eT.snoc (h:eT w f S sv pl L) {g cap:Nat} {e:En} {w1:World} (how:w1.ownsRow 0 110 2 (.slice (some ⟨g,0,none⟩) (L.length+1:Nat) cap) (L.length+1) (yX L++[.int .i64 (e.i:Nat),.int .i64 e.k])) (hg:w.grownBy w1 sv.ownBlock) (hv:Moved w sv g):
  eT (w1.setCell ⟨f.h,2,none⟩ (.slice (some ⟨g,0,none⟩) (L.length+1:Nat) cap)) { f with g:=some g } S (.slice (some ⟨g,0,none⟩) (L.length+1:Nat) cap) pl (L++[e])∧yF f { f with g:=some g } S w (w1.setCell ⟨f.h,2,none⟩ (.slice (some ⟨g,0,none⟩) (L.length+1:Nat) cap)):=by
 have hd:∀j<w.heap.size,f.g≠some j→w1.heap[j]?=w.heap[j]?:=λj hj hn=>hg.block j hj λc=>hn (h.og.symm.trans c.symm)
 have Ru:∀j<w.heap.size,f.g≠some j→g≠j:=λj hj hn e=>by
  rcases hv with c |c
  ·exact hn (by rw[←h.og,c,e])
  ·omega
 have gh:=Ru _ h.hr.lt h.n2.1;have gp:=Ru _ h.pr.lt h.n2.2;refine⟨⟨?_,?_,rfl,?_,λk hk c hc=>?_,h.zz,h.n1,⟨λe=>gh (Option.some.inj e),λe=>gp (Option.some.inj e)⟩,λk c hk hc=>?_,h.n4⟩,⟨?_,λj hj=>?_,rfl⟩⟩
 ·exact((h.hr.of_block (hd _ h.hr.lt h.n2.1)).set 2 (.slice (some ⟨g,0,none⟩) (L.length+1:Nat) cap)).congr λi hi=>by match i,hi with |0,_=>rfl |1,_=>rfl |2,_=>rfl |3,_=>rfl |n+4,k=>omega
 ·rw[List.length_append,RQ];exact aG how λx hx=>aC x λc=>gh ((show g=x by simpa [Value.ownBlock] using hx).trans c)
 ·exact(h.pr.of_block (hd _ h.pr.lt h.n2.2)).setOther (λc=>h.n1 c.symm) _
 ·obtain⟨a,b,d⟩:=h.n3 k c hk hc;exact((h.bk k hk c hc).of_block (hd _ (h.bk k hk c hc).lt d)).setOther (λe=>a e) _
 ·obtain⟨a,b,d⟩:=h.n3 k c hk hc;exact⟨a,b,λe=>Ru _ (h.bk k hk c hc).lt d (Option.some.inj e)⟩
 ·refine Off.setCell ⟨hg.os,hg.tape,hg.output,hg.size,λj hj hn=>hd j hj λc=>hn (bY.ak.2 (.inr (.inl c)))⟩ (bY.ak.2 (.inl rfl)) _
 ·rcases bY.ak.1 hj with e |e |e |e
  ·exact .inl (bY.ak.2 (.inl e))
  ·have:g=j:=Option.some.inj e
   rcases hv with c |c
   ·exact .inl (bY.ak.2 (.inr (.inl (by rw[←h.og,c,this]))))
   ·exact .inr om
  ·exact .inl (bY.ak.2 (.inr (.inr (.inl e))))
  ·exact .inl (bY.ak.2 (.inr (.inr (.inr e))))
theorem eT.cut {g cap m:Nat} (h:eT w f S (.slice (some ⟨g,0,none⟩) L.length cap) pl L) (hm:m≤L.length):
  eT (w.setCell ⟨f.h,2,none⟩ (.slice (some ⟨g,0,none⟩) (m:Nat) cap)) f S (.slice (some ⟨g,0,none⟩) (m:Nat) cap) pl (L.take m)∧yF f f S w (w.setCell ⟨f.h,2,none⟩ (.slice (some ⟨g,0,none⟩) (m:Nat) cap)):=by
 have hgf:f.g=some g:=h.og.symm;have gh:g≠f.h:=λe=>h.n2.1 (by rw[hgf,e]);refine⟨⟨?_,?_,h.og,h.pr.setOther (λc=>h.n1 c.symm) _,λk hk c hc=>(h.bk k hk c hc).setOther (h.n3 k c hk hc).1 _,h.zz,h.n1,h.n2,h.n3,h.n4⟩,⟨(Off.refl _ w).setCell (p:=⟨f.h,2,none⟩) (bY.ak.2 (.inl rfl)) _,λj hj=>.inl hj,rfl⟩⟩
 ·exact(h.hr.set 2 (.slice (some ⟨g,0,none⟩) m cap)).congr λi hi=>by match i,hi with |0,_=>rfl |1,_=>rfl |2,_=>rfl |3,_=>rfl |n+4,k=>omega
 ·have:=zF (m:=m) h.ow hm;rw[RP] at this;rw[List.length_take,Nat.min_eq_left hm];exact aG this λx hx=>aC x λc=>gh ((show g=x by simpa [Value.ownBlock] using hx).trans c)
end
def oI (w:World) (f:bY) (S:Nat) (L:List En):Prop:=∃sv pl,eT w f S sv pl L∧gU S pl L∧Hp L
section
variable {w w':World} {f:bY} {S:Nat} {L:List En}
theorem oI.lt (h:oI w f S L):∀j∈f.bl S,j<w.heap.size:=λj hj=>by
 obtain⟨sv,pl,h1,_⟩:=h;exact h1.lt (bY.ak.1 hj)
theorem oI.keep (h:oI w f S L) (e:∀j∈f.bl S,w'.heap[j]?=w.heap[j]?):oI w' f S L:=by
 obtain⟨sv,pl,h1,h2⟩:=h;exact⟨sv,pl,h1.keep λj hj=>e j (bY.ak.2 hj),h2⟩
theorem su {L:List En} {e:En}:e∈L↔∃p,p<L.length∧aB L p=e:=by
 rw[List.mem_iff_getElem];exact⟨λ⟨x,hx,h⟩=>⟨x,hx,(oV hx).trans h⟩,λ⟨x,hx,h⟩=>⟨x,hx,(oV hx).symm.trans h⟩⟩
theorem gU.inj {pl:Nat→Nat} (h:gU S pl L) {a b:Nat} (ha:a<L.length) (hb:b<L.length) (e:(aB L a).i=(aB L b).i):a=b:=by
 have h1:=h.at_ a ha;have h2:=h.at_ b hb;rw[e] at h1;omega
theorem gU.le {pl:Nat→Nat} (h:gU S pl L):L.length≤S:=by
 have:=jT (l:=(List.range L.length).map λp=>(aB L p).i) (m:=S) (List.pairwise_map.2 (List.nodup_range.imp_of_mem fun{a b} ha hb hne e=>hne (h.inj (List.mem_range.1 ha) (List.mem_range.1 hb) e))) λx hx=>by
  obtain⟨p,hp,rfl⟩:=List.mem_map.1 hx;exact h.lt p (List.mem_range.1 hp)
 simpa using this
theorem gU.none_ {pl:Nat→Nat} (h:gU S pl L) {i:Nat} (hi:i<S) (hn:∀e∈L,e.i≠i):pl i=0:=by
 by_cases c:pl i=0
 ·exact c
 ·obtain⟨h1,h2⟩:=h.inv i hi c;exact absurd h2 (hn _ (su.2 ⟨pl i-1,om,rfl⟩))
theorem gU.snoc {pl:Nat→Nat} (h:gU S pl L) {e:En} (hi:e.i<S) (hn:∀x∈L,x.i≠e.i):gU S (λj=>if j=e.i then L.length+1 else pl j) (L++[e]):=by
 have hl:(L++[e]).length=L.length+1:=sj
 have a1:∀p<L.length,aB (L++[e]) p=aB L p:=λp hp=>by
  unfold aB;rw[List.getD_eq_getElem?_getD,List.getElem?_append_left hp,List.getD_eq_getElem?_getD]
 have a2:aB (L++[e]) L.length=e:=by unfold aB;simp
 refine⟨λp hp=>?_,λp hp=>?_,λi hiS h0=>?_⟩
 ·rw[hl] at hp
  by_cases c:p=L.length
  ·rw[c,a2];exact hi
  ·rw[a1 p om];exact h.lt p om
 ·rw[hl] at hp
  by_cases c:p=L.length
  ·rw[c,a2,if_pos rfl]
  ·rw[a1 p om,if_neg (hn _ (su.2 ⟨p,om,rfl⟩))];exact h.at_ p om
 ·rw[hl]
  by_cases c:i=e.i
  ·rw[if_pos c];exact⟨Nat.le_refl _,by rw[Nat.add_sub_cancel,a2,c]⟩
  ·rw[if_neg c] at h0⊢;obtain⟨k1,k2⟩:=h.inv i hiS h0;exact⟨om,by rw[a1 _ om];exact k2⟩
theorem gU.cut {pl:Nat→Nat} {m:Nat} (h:gU S pl L) (hm:L.length=m+1):gU S (λj=>if j=(aB L m).i then 0 else pl j) (L.take m):=by
 have hl:(L.take m).length=m:=by rw[List.length_take];omega
 have a1:∀p<m,aB (L.take m) p=aB L p:=λp hp=>by
  unfold aB;rw[List.getD_eq_getElem?_getD,List.getElem?_take,if_pos hp,List.getD_eq_getElem?_getD]
 refine⟨λp hp=>?_,λp hp=>?_,λi hiS h0=>?_⟩
 ·rw[hl] at hp;rw[a1 p hp];exact h.lt p om
 ·rw[hl] at hp;rw[a1 p hp,if_neg λe=>oC (h.inj om om e)];exact h.at_ p om
 ·by_cases c:i=(aB L m).i
  ·rw[if_pos c] at h0;exact absurd rfl h0
  ·rw[if_neg c] at h0⊢;obtain⟨k1,k2⟩:=h.inv i hiS h0;have:pl i-1≠m:=λe=>c (by rw[←k2,e]);rw[hl];exact⟨om,by rw[a1 _ om];exact k2⟩
end
theorem Tryz.QZ:(Tryz.prog.info? 110).map (λi=>(i.zero,i.size,i.bytes))=some (some (.agg #[.int .i64 0,.int .i64 0]),2,16):=by kernel_rfl
theorem aix:ET 219 110 2 16:=ET.of Tryz.underlying219 Tryz.QZ rfl (by decide)
section
variable {w:World} {f:bY} {S:Nat} {sv:Value} {pl:Nat→Nat} {L:List En}
theorem eT.any (h:eT w f S sv pl L):∃a cap,sv=.slice a L.length cap:=by
 rcases h.ow.2 with⟨e,e2⟩ |⟨g,cap,cur,e,_⟩
 ·exact⟨none,0,by rw[e,e2]⟩
 ·exact⟨_,cap,e⟩
theorem u6 (h:eT w f S sv pl L) (ho:gU S pl L) {k1 k2 p p1 p2:Nat} {L1 L2:List En} (hs1:Ud Ib k1 L p L1 p1) (hs2:Ud CG k2 L1 p1 L2 p2) (hp:p<L.length) (hL:L.length≤65536) (hS:S≤65536):
  Calls Tryz.prog 131 #[.pointer (some ⟨f.h,0,none⟩),.int .i64 (p:Nat)] w λe w'=>e=.returned (.tuple #[])∧∃f' Ck,eT w' f' S sv Ck L2∧gU S Ck L2∧yF f f' S w w':=by
 have HH:=jh h;have HO:=jh ho;have H1:=jh hs1;have H2:=jh hs2;have HB:=jh (And.intro hp (And.intro hL hS));clear h ho hs1 hs2 hp hL hS;go_in;go_wp2_with fail;generalize hW:((w.alloc (.cells #[.pointer (some ⟨f.h,0,none⟩)] 125)).alloc (.cells #[.int .i64 p] 3))=W
 have hsz:W.heap.size=w.heap.size+1+1:=by rw[←hW];simp
 have hk:∀j<w.heap.size,W.heap[j]?=w.heap[j]?:=λj hj=>by
  rw[←hW];exact(Below.heap_alloc _ _ _ (by simp;omega)).trans (Below.heap_alloc _ _ _ hj)
 have r1:Row W w.heap.size 1 (λ_=>.pointer (some ⟨f.h,0,none⟩)):=by
  rw[←hW];exact(Row.lit (n:=1) (f:=λ_=>.pointer (some ⟨f.h,0,none⟩)) w #[.pointer (some ⟨f.h,0,none⟩)] 125 (Nat.le_refl _) lC).alloc _
 have r2:Row W (w.heap.size+1) 1 (λ_=>.int .i64 p):=by
  have:=Row.lit (n:=1) (f:=λ_=>.int .i64 p) (w.alloc (.cells #[.pointer (some ⟨f.h,0,none⟩)] 125)) #[.int .i64 p] 3 (Nat.le_refl _) lC;rw[←hW];simpa using this
 have hM:eT W f S sv pl L:=HH.out.keep λj hj=>hk j (HH.out.lt hj);have hlt:∀j∈f.bl S,j<w.heap.size:=λj hj=>HH.out.lt (bY.ak.1 hj)
 have hOf:Off [] w W:=by rw[←hW];exact((Off.refl [] w).alloc _).alloc _
 have HX:=jh (Ma hM HO.out H1.out HB.out.1 HB.out.2.1 HB.out.2.2 r2 r1 (λc=>oC (hlt _ c)) (λc=>oC (hlt _ c)) om);have R1:=jh r1;have HLt:=jh hlt;have CK:=jh hOf;have uV:=jh hsz;clear hW hk r1 r2 hM hlt hOf hsz;go_wp2_with fail;apply mO HX;rintro e w3 ⟨rfl,f1,Jg,m1,o1,l1,l2,g1,h1,b1,b2,of1,gr1⟩;have Ue:=jh (L9 m1 o1 H2.out l1 (oC HB.out) HB.out.2.2 b1 (by rw[h1];exact R1.out.of_block b2) (λc=>(gr1 _ c).elim (λe=>oC (HLt.out _ e)) λe=>oC uV.out) (λc=>(gr1 _ c).elim (λe=>oC (HLt.out _ e)) λe=>oC uV.out) om);rw[h1] at Ue;have O1:=jh of1;have G1:=jh gr1;have F1:=jh h1;have cb:=(R1.out.of_block b2).c 0;clear m1 o1 l1 l2 g1 h1 b1 b2 of1 gr1 HX;go_wp2_with fail;apply mO Ue;rintro e w4 ⟨rfl,f2,NG,m2,o2,_,_,g2,h2,b1,b2,Xl,TS⟩;have HM:=jh m2;have eG:=jh o2;have O2:=jh Xl;have G2:=jh TS;have F2:=jh h2;clear m2 o2 g2 h2 b1 b2 Xl TS Ue;go_wp2;go_end0;refine⟨rfl,f2,NG,HM.out,eG.out,⟨?_,λj hj=>?_,F2.out⟩⟩
 ·have a:Off ((w.heap.size+1)::f.bl S) W w4:=O1.out.trans O2.out λj hj=>by
   rcases List.mem_cons.1 hj with e |e
   ·exact .inl (by rw[e];simp)
   ·exact(G1.out j e).imp (λe=>List.mem_cons_of_mem _ e) id
  have b:Off ((w.heap.size+1)::f.bl S) w w4:=CK.out.mono (λj hj=>by cases hj) |>.trans a λj hj=>.inl hj;exact b.mono λj hj=>(List.mem_cons.1 hj).elim (λe=>.inr om) .inl
 ·have hs:=CK.out.size;have hs1:=O1.out.size
  rcases G2.out j hj with e |e
  ·exact(G1.out j e).imp id λe=>om
  ·exact .inr om
theorem zS (h:oI w f S L) {i:Nat} {key:Int} (hi:i<S) (hn:∀e∈L,e.i≠i) (hS:S≤65535):
  Calls Tryz.prog 95 #[.pointer (some ⟨f.h,0,none⟩),.int .i64 (i:Nat),.int .i64 key] w λe w'=>e=.returned (.int .i64 0)∧∃f' L',oI w' f' S L'∧(∀e,e∈L'↔e∈L∨e=⟨i,key⟩)∧yF f f' S w w':=by
 obtain⟨sv,pl,m,o,hp⟩:=h;have hpl:=o.none_ hi hn;obtain⟨a,cap,rfl⟩:=m.any;have hle:=o.le;have c2:=m.c2;have c2f:=m.hr.frozen 2;have HV:=jh (jZ m);have HHs:=jh (Er m hi);have XW:=jh (xG m hi om om);rw[hpl] at XW;have HOW:=jh m.ow;have HM:=jh m;have HO:=jh o;have HHp:=jh hp;have HB:=jh (And.intro hi (And.intro hS hle));have XY:=jh hn;have hb:(0:Int)≤L.length∧(L.length:Int)≤65536:=om;have hb2:L.length≤65536:=om;clear m o hp hpl hle hi hn hS;obtain⟨N,hN⟩:=nE L.length;rw[hN] at c2 HOW hb hb2 HM;have HN:=jh hN;clear hN;go_in;go_wp2_with fail;apply mO HV;rintro e w1 ⟨rfl,rfl⟩;go_wp2_with fail;apply mO HHs;rintro e w1 ⟨rfl,rfl⟩;go_wp2_with fail;apply mO XW;rintro e w1 ⟨rfl,rfl⟩
 go_wp2_with (at_builtin;refine push aix rfl _ _ rfl 0 _ _ _ HOW.out rfl #[.int .i64 i,.int .i64 key] _ rfl rfl rfl (by simp[Value.oneCell']) om om (Nat.zero_le _) ?_;intro g cp w5 hown5 hg5 hv5;refine Hid.out ?_)
 have qP:w5.heap[f.h]?=w1.heap[f.h]?:=hg5.block _ HM.out.hr.lt λc=>HM.out.n2.1 (HM.out.og.symm.trans c.symm);have c2:=(HM.out.hr.of_block qP).c 2;have c2f:=(HM.out.hr.of_block qP).frozen 2;have hs0:=HM.out.snoc (e:=⟨i,key⟩) (by rw[HN.out];exact hown5) hg5 hv5;rw[HN.out] at hs0;have M6:=jh hs0.1;have O6:=jh hs0.2;have HX:=jh (lN hs0.1 (i:=i) (p:=N) (v:=N+1) HB.out.1 (oC HB.out) (by push_cast;rfl) (oD HB.out HN.out));have hU:=HHp.out.snoc ⟨i,key⟩;obtain⟨k1,L1,p1,s1,hp1,_,len1,mem1⟩:=hU.sift;have po:=HO.out.snoc (e:=⟨i,key⟩) HB.out.1 XY.out;rw[HN.out] at s1 po;have S1:=jh s1;have HP1:=jh hp1;have Ki:=jh mem1;have PO:=jh po;clear qP hs0 hU s1 hp1 len1 mem1 po hown5 hg5 hv5;refine jh ?_;go_wp2_with fail;apply mO HX;rintro e w7 ⟨rfl,f7,m7,_,o7⟩
 have hl7:(L++[(⟨i,key⟩:En)]).length=N+1:=by rw[List.length_append,HN.out];rfl
 have HY:=jh (u6 m7 PO.out S1.out (k2:=0) (L2:=L1) (p2:=p1) ⟨HP1.out.CG p1,rfl,rfl⟩ (by rw[hl7];omega) (by rw[hl7];have:=HB.out;have:=HN.out;omega) (oC HB.out));have hsh:f7.h=f.h:=o7.sh;rw[hsh] at HY;have O7:=jh o7;clear m7 o7 hl7 hsh HX c2 c2f;go_wp2_with fail;apply mO HY;rintro e w8 ⟨rfl,f8,pl8,m8,po8,o8⟩;have M8:=jh m8;have PO8:=jh po8;have O8:=jh o8;clear m8 po8 o8 HY;go_wp2;go_ret;exact⟨rfl,f8,L1,⟨_,pl8,M8.out,PO8.out,HP1.out⟩,λe=>(Ki.out e).trans sj,(O6.out.trans O7.out).trans O8.out⟩
end
end Go.Proofs.YtpaeogglppampaaGreatDoor
