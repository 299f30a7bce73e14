/- Lemmas of the proof. Conditions: as each one states. -/
import Derived.Test.YtpaeogglppampaaGreatDoorQj
import Derived.Sort.BigQuietIn
set_option maxRecDepth 100000
set_option maxHeartbeats 16000000
namespace Go.Proofs.YtpaeogglppampaaGreatDoor
open Go.RowKit
theorem fJ {p:List Int} {v:Int}:vK p v=true↔∃u:Nat,v=u∧u<p.length:=by
 simp only[vK,decide_eq_true_eq];constructor
 ·intro h;exact⟨v.toNat,om,om⟩
 ·rintro⟨u,rfl,h⟩;omega
theorem qH {f:FuncId} {args:Array Value} {w:World} {n:Nat} {v:Value}
  (h:Calls Tryz.prog f args (w.drewN n) λe w'=>e=.returned v∧w.drewN n=w'):Calls Tryz.prog f args (w.drewN n) λe w''=>e=.returned v∧∃m,w''=w.drewN m:=
 h.mono λ_ _ ⟨he,hm⟩=>⟨he,n,hm.symm⟩
theorem TabAt.drewN {w:World} {B b:Nat} {p:List Int} (h:TabAt w B b p) (n:Nat):TabAt (w.drewN n) B b p:=h.below (below_drewN (Below.refl _ _) n)
theorem afU {B:Nat} {a:Option Addr} {cap:Nat} {A:Nat→Addr} {p:List Int} {w:World} {c:Int} (hE:newE p=c) (hc:c≠0) (hm:p.length≤9223372036854775807) (hS:Sl 62 .i64 w B (.slice a p.length cap) p A) (hB:B≤w.heap.size):
  Calls Tryz.prog 145 #[.slice a p.length cap] w λe w'=>e=.returned (.tuple #[.pointer none,.int .i64 c])∧Below w.heap.size w w':=by
 unfold newE at hE
 by_cases h1:8192<p.length
 ·rw[if_pos h1] at hE;subst hE;exact(Va a p.length cap w h1 hm).mono λe w' ⟨h2,h3⟩=>⟨h2,h3▸Below.refl _ _⟩
 ·rw[if_neg h1] at hE
  by_cases h2:LZ p=true
  ·rw[if_pos h2] at hE
   by_cases h3:mR p=true
   ·rw[if_pos h3] at hE;exact absurd hE.symm hc
   ·rw[if_neg h3] at hE;subst hE;refine(Qk B a cap A p w om (sO.1 h2) hS hB).mono λe w' ⟨h4,h5⟩=>?_
    rcases h5 with⟨_,h5⟩ |⟨h5,_⟩
    ·exact⟨h5,h4⟩
    ·exact absurd h5 h3
  ·rw[if_neg h2] at hE;subst hE;exact(Li B a cap A p w om (λh=>h2 (sO.2 h)) hS).mono λe w' ⟨h2,h3⟩=>⟨h2,h3▸Below.refl _ _⟩
theorem Lj {p:List Int} (hE:newE p=0):p.length≤8192∧jG p∧mR p=true:=by
 unfold newE at hE
 by_cases h1:8192<p.length
 ·rw[if_pos h1] at hE;omega
 ·rw[if_neg h1] at hE
  by_cases h2:LZ p=true
  ·rw[if_pos h2] at hE
   by_cases h3:mR p=true
   ·exact⟨om,sO.1 h2,h3⟩
   ·rw[if_neg h3] at hE;omega
  ·rw[if_neg h2] at hE;omega
def aek (p:List Int) (w:World) (e:Ending) (w':World):Prop:=∃b,e=.returned (.tuple #[.pointer (some ⟨b,0,none⟩),.int .i64 0])∧TabAt w' w'.heap.size b p∧Below w.heap.size w w'∧Held w.heap.size w' λW=>TabAt W w'.heap.size b p
theorem Qj {B:Nat} {a:Option Addr} {cap:Nat} {A:Nat→Addr} {p:List Int} {w:World} (hE:newE p=0) (hS:Sl 62 .i64 w B (.slice a p.length cap) p A) (hB:B≤w.heap.size):
  Calls Tryz.prog 145 #[.slice a p.length cap] w (aek p w):=by
 obtain⟨h1,h2,h3⟩:=Lj hE;refine(Qk B a cap A p w h1 h2 hS hB).mono λe w' ⟨h4,h5⟩=>?_
 rcases h5 with⟨h5,_⟩ |⟨_,b,h5,h6⟩
 ·rw[h3] at h5;cases h5
 ·exact⟨b,h5,h6.self,h4,h6⟩
def onward (p key:List Int) (m:Int) (v:Nat):Bool:=match pa p v with
 |some u=>decide (nth key u≤m)
 |none=>false
def BP (p key:List Int) (m:Int):Nat→Nat→Nat
 |0,v=>v
 |f+1,v=>match pa p v with
  |some u=>if nth key u≤m then BP p key m f u else v
  |none=>v
def iD (p key:List Int) (m:Int) (v:Nat):Nat:=BP p key m (dp p v) v
def T9 (p:List Int) (v:Int) (key:List Int):Int:=if vK p v then(if key.length=p.length then 0 else 2) else 3
def TY (p:List Int) (v:Int) (key:List Int) (m:Int):Int:=if T9 p v key=0 then iD p key m v.toNat else 0
theorem mK {p key:List Int} {m:Int} {v:Nat} (h:onward p key m v=false):iD p key m v=v:=by
 unfold iD
 cases hd:dp p v with
 |zero=>rfl
 |succ f=>
  rw[BP];unfold onward at h
  cases hp:pa p v with
  |none=>rfl
  |some u=>rw[hp] at h;simp only[decide_eq_false_iff_not] at h;simp only[if_neg h]
theorem tK {p key:List Int} {m:Int} {v:Nat} (F:Tree p) (hv:v<p.length) (h:onward p key m v=true):∃u,pa p v=some u∧u<p.length∧dp p v=dp p u+1∧iD p key m v=iD p key m u:=by
 unfold onward at h
 cases hp:pa p v with
 |none=>rw[hp] at h;cases h
 |some u=>
  rw[hp] at h;have hd:=F.up v u hv hp;refine⟨u,rfl,F.rng v u hv hp,hd,?_⟩;unfold iD;rw[hd,BP,hp];simp only[decide_eq_true_eq] at h;simp only[if_pos h]
structure Key (w:World) (B:Nat) (v:Value) (l:List Int) (A:Nat→Addr):Prop where
 ix:∀i:Nat,i<l.length→∀w':World,(Instr.indexAt 72 v (.int .i64 i)).run Tryz.prog w'=.ok (.pointer (some (A i))) w'
 lt:∀i:Nat,i<l.length→(A i).block<B
 cell:∀i:Nat,i<l.length→w.cell? (A i)=some (.int .i64 (nth l i))
theorem Key.below {w w':World} {B:Nat} {v:Value} {l:List Int} {A:Nat→Addr} (h:Key w B v l A) (hb:Below B w w'):Key w' B v l A:=
 ⟨h.ix,h.lt,λi hi=>by rw[hb.cell (h.lt i hi)];exact h.cell i hi⟩
theorem Yt {a b c d:Int} (h:a=b) (h':c=d):Ending.returned (.tuple #[.int .i64 a,.int .i64 c])=.returned (.tuple #[.int .i64 b,.int .i64 d]):=by rw[h,h']
def Quiet (w:World) (v:Value) (e:Ending) (w':World):Prop:=e=.returned v∧∃n,w.drewN n=w'
theorem wP (b B b0 b1 b2:Nat) (p key:List Int) (m:Int) (a:Option Addr) (cap:Nat) (A:Nat→Addr) (v:Nat) (w:World) (h:TabAt w B b p) (hK:Key w B (.slice a key.length cap) key A) (hl:key.length=p.length) (hv:v<p.length)
  (h0:w.cell? ⟨b0,0,none⟩=some (.pointer (some ⟨b,0,none⟩))) (h1:w.cell? ⟨b1,0,none⟩=some (.slice a key.length cap)) (h2:w.cell? ⟨b2,0,none⟩=some (.int .i64 m)):
  Calls Tryz.prog 162 #[.int .i64 v,.pointer (some ⟨b0,0,none⟩),.pointer (some ⟨b1,0,none⟩),.pointer (some ⟨b2,0,none⟩)] w (Quiet w (.bool (onward p key m v))):=by
 obtain⟨jb,hj⟩:=h.jmp;have c1:=(hj 0 om).2.1;replace c1:w.cell? ⟨b,2,none⟩=some (.slice (some ⟨jb 0,0,none⟩) p.length p.length):=c1;have c2:=(hj 0 om).2.2 v hv;have F:=h.tree;have hs:=h.small;have vi:(0:Int)≤v∧(v:Int)<p.length:=om;clear hj
 cases hp:pa p v with
 |none=>
  have e:onward p key m v=false:=by simp[onward,hp]
  rw[e]
  replace c2:w.cell? ⟨jb 0,v,none⟩=some (.int .i64 (-1)):=by rw[c2];show some (Value.int .i64 (oi (pa p v)))=_;rw[hp];rfl
  clear e hp hl hK
  have hd:decide ((0:Int)≤-1)=false:=by decide
  go_in;go_wp2
  go_quiet (fail)
  go_wp2;go_ret;exact⟨rfl,_,rfl⟩
 |some u=>
  have Gt:=F.rng v u hv hp
  have e:onward p key m v=decide (nth key u≤m):=by simp[onward,hp]
  rw[e]
  replace c2:w.cell? ⟨jb 0,v,none⟩=some (.int .i64 u):=by rw[c2];show some (Value.int .i64 (oi (pa p v)))=_;rw[hp];rfl
  have c3:=hK.cell u om;have hix:=hK.ix u om;have ui:(0:Int)≤u∧(u:Int)<p.length:=om;have hd:decide ((0:Int)≤u)=true:=sj;clear e hp hl hK;go_in;go_wp2
  go_quiet (fail)
  go_wp2;go_ret;exact⟨rfl,_,rfl⟩
theorem MU (b B:Nat) (p key:List Int) (m:Int) (a:Option Addr) (cap:Nat) (A:Nat→Addr) (v:Int) (w:World) (h:TabAt w B b p) (hK:Key w B (.slice a key.length cap) key A) (hBw:B≤w.heap.size):
  Calls Tryz.prog 121 #[.pointer (some ⟨b,0,none⟩),.int .i64 v,.slice a key.length cap,.int .i64 m] w λe w'=>e=.returned (.tuple #[.int .i64 (TY p v key m),.int .i64 (T9 p v key)])∧Below w.heap.size w w':=by
 have hB0:Below w.heap.size w (((w.alloc (.cells #[.pointer (some ⟨b,0,none⟩)] 148)).alloc (.cells #[.slice a key.length cap] 72)).alloc (.cells #[.int .i64 m] 2)):=
  (((Below.refl _ w).alloc (Nat.le_refl _) _).alloc sj _).alloc (by simp;omega) _
 have f0:(((w.alloc (.cells #[.pointer (some ⟨b,0,none⟩)] 148)).alloc (.cells #[.slice a key.length cap] 72)).alloc (.cells #[.int .i64 m] 2)).cell? ⟨w.heap.size,0,none⟩=some (.pointer (some ⟨b,0,none⟩)):=by go_simp
 have f1:(((w.alloc (.cells #[.pointer (some ⟨b,0,none⟩)] 148)).alloc (.cells #[.slice a key.length cap] 72)).alloc (.cells #[.int .i64 m] 2)).cell? ⟨w.heap.size+1,0,none⟩=some (.slice a key.length cap):=by go_simp
 have f2:(((w.alloc (.cells #[.pointer (some ⟨b,0,none⟩)] 148)).alloc (.cells #[.slice a key.length cap] 72)).alloc (.cells #[.int .i64 m] 2)).cell? ⟨w.heap.size+1+1,0,none⟩=some (.int .i64 m):=by go_simp
 have hc0:=h.made;have h':=h.below (hB0.mono hBw);have hc1:=h'.made;have hs:=h.small
 cases hv:vK p v with
 |false=>
  have e1:T9 p v key=3:=by simp[T9,hv]
  have e2:TY p v key m=0:=by simp[TY,e1]
  rw[e1,e2];have H:=jh hv;clear hv e1 e2;go_in;go_wp2_with fail;refine(iq H.out h').mono ?_;rintro e w' ⟨rfl,rfl⟩;go_wp2;go_ret2;exact⟨rfl,hB0⟩
 |true=>
  by_cases hl:key.length=p.length
  ·have e1:T9 p v key=0:=by simp[T9,hv,hl]
   obtain⟨u,rfl,hu⟩:=fJ.1 hv
   have e2:TY p u key m=iD p key m u:=by simp[TY,e1]
   rw[e1,e2];have H:=jh hv;have HL:=jh hl;have hK':=hK.below (hB0.mono hBw);have hF:=h.tree;clear hv hl e1 e2
   have hlb:((key.length:Int) !=(p.length:Int))=false:=by simp[HL.out]
   go_in;go_wp2_with fail;refine(iq H.out h').mono ?_;rintro e w' ⟨rfl,rfl⟩;go_wp2_with fail;generalize hW0:(((w.alloc (.cells #[.pointer (some ⟨b,0,none⟩)] 148)).alloc (.cells #[.slice a key.length cap] 72)).alloc (.cells #[.int .i64 m] 2))=W0 at*;clear hW0
   go_quiet ((go_at_call 161;exact qH (Bn _ _ _ _ (h'.drewN _))))
   go_wp2
   go_loopw [1] (λvv wr=>∃(v n:Nat),vv=.int .i64 v∧v<p.length∧iD p key m v=iD p key m u∧wr=W0.drewN n) (λvv _=>dp p (intOf vv).toNat)
   case atStart=>exact⟨u,nq,rfl,hu,rfl,rfl⟩
   case round=>
    obtain⟨v,n,rfl,hvl,hcl,rfl⟩:=hrel;have HC:=jh hcl;clear hcl;have hd:=mJ hF hvl
    cases ho:onward p key m v with
    |false=>
     have hq:=wP b B w.heap.size (w.heap.size+1) (w.heap.size+1+1) p key m a cap A v (W0.drewN n) (h'.drewN n) (hK'.below (below_drewN (Below.refl _ _) n)) HL.out hvl f0 f1 f2;rw[ho] at hq;have HO:=jh ho;clear ho;have HQ:=jh hq;clear hq;go_wp2_with fail;apply mO HQ;rintro e w' ⟨rfl,j,rfl⟩;go_wp2;go_ret2;exact⟨Yt (by rw[←HC.out,mK HO.out]) rfl,below_drewN hB0 _⟩
    |true=>
     obtain⟨x,hx,hxl,hxd,hxc⟩:=tK hF hvl ho;have hq:=wP b B w.heap.size (w.heap.size+1) (w.heap.size+1+1) p key m a cap A v (W0.drewN n) (h'.drewN n) (hK'.below (below_drewN (Below.refl _ _) n)) HL.out hvl f0 f1 f2;rw[ho] at hq;clear ho;have HQ:=jh hq;clear hq;obtain⟨jb,hj⟩:=h'.jmp;have c1:=(hj 0 om).2.1;replace c1:W0.cell? ⟨b,2,none⟩=some (.slice (some ⟨jb 0,0,none⟩) p.length p.length):=c1;have c2:=(hj 0 om).2.2 v hvl
     replace c2:W0.cell? ⟨jb 0,v,none⟩=some (.int .i64 x):=by rw[c2];show some (Value.int .i64 (oi (pa p v)))=_;rw[hx];rfl
     have vi:(0:Int)≤v∧(v:Int)<p.length:=om;have HX:=jh hxc;have HD:=jh hxd;clear hj hx hxc hxd;go_wp2_with fail;apply mO HQ;rintro e w' ⟨rfl,j,rfl⟩;go_wp2;go_roundw
     case rel=>exact⟨x,_,rfl,hxl,by rw[←HX.out];exact HC.out,rfl⟩
     case measure=>have:=HD.out;simp only[intOf,Int.toNat_natCast];omega
  ·have e1:T9 p v key=2:=by simp[T9,hv,hl]
   have e2:TY p v key m=0:=by simp[TY,e1]
   rw[e1,e2];have H:=jh hv;clear hv e1 e2
   have hlb:((key.length:Int) !=(p.length:Int))=true:=by simp;omega
   go_in;go_wp2_with fail;refine(iq H.out h').mono ?_;rintro e w' ⟨rfl,rfl⟩;go_wp2
   go_quiet ((go_at_call 161;exact qH (Bn _ _ _ _ (h'.drewN _))))
   go_wp2;go_ret2;exact⟨rfl,below_drewN hB0 _⟩
end Go.Proofs.YtpaeogglppampaaGreatDoor
