/- Lemmas of the proof. Conditions: as each one states. -/
import Derived.Test.YtpaeogglppampaaGreatDoorQb
import Derived.Test.YtpaeogglppampaaGreatDoorQc
import Derived.Test.YtpaeogglppampaaGreatDoorQg
import Derived.Test.YtpaeogglppampaaGreatDoorQl
import Derived.Laws.MakeOwn
set_option maxRecDepth 100000
set_option maxHeartbeats 16000000
namespace Go.Proofs.YtpaeogglppampaaGreatDoor
open Go.RowKit
structure Off (S:List Nat) (w w':World):Prop where
 os:w'.os=w.os
 tape:w'.tape=w.tape
 output:w'.output=w.output
 size:w.heap.size≤w'.heap.size
 block:∀k<w.heap.size,k∉S→w'.heap[k]?=w.heap[k]?
theorem Off.refl (S:List Nat) (w:World):Off S w w:=⟨rfl,rfl,rfl,Nat.le_refl _,λ_ _ _=>rfl⟩
theorem Off.trans {S S':List Nat} {a b c:World} (h:Off S a b) (k:Off S' b c) (hs:∀j∈S',j∈S∨a.heap.size≤j):Off S a c:=
 ⟨k.os.trans h.os,k.tape.trans h.tape,k.output.trans h.output,Nat.le_trans h.size k.size,λj hj hn=>(k.block j (Nat.lt_of_lt_of_le hj h.size) λc=>(hs j c).elim hn λe=>om).trans (h.block j hj hn)⟩
theorem Off.mono {S S':List Nat} {a b:World} (h:Off S a b) (hs:∀j∈S,j∈S'∨a.heap.size≤j):Off S' a b:=
 ⟨h.os,h.tape,h.output,h.size,λj hj hn=>h.block j hj λc=>(hs j c).elim hn λe=>om⟩
theorem Off.setCell {S:List Nat} {a b:World} (h:Off S a b) {p:Addr} (hp:p.block∈S) (v:Value):Off S a (b.setCell p v):=
 ⟨h.os,h.tape,h.output,by simpa [World.setCell] using h.size,λj hj hn=>(Below.heap_setCell _ _ _ _ (λe=>hn (by rw[e];exact hp))).trans (h.block j hj hn)⟩
theorem Off.drew {S:List Nat} {a b:World} (h:Off S a b):Off S a b.drew:=⟨h.os,h.tape,h.output,h.size,h.block⟩
theorem Off.drewN {S:List Nat} {a b:World} (h:Off S a b) (q:Nat):Off S a (b.drewN q):=by
 have k:=below_drewN (Below.refl 0 b) q;exact⟨k.os.trans h.os,k.tape.trans h.tape,k.output.trans h.output,by simpa using h.size,λj hj hn=>by simpa using h.block j hj hn⟩
theorem Off.below {S:List Nat} {a b:World} {B:Nat} (h:Off S a b) (hB:B≤a.heap.size) (hs:∀j∈S,B≤j):Below B a b:=
 ⟨h.os,h.tape,h.output,h.size,λj hj=>h.block j om λc=>oC (hs j c)⟩
theorem Off.alloc {S:List Nat} {a b:World} (h:Off S a b) (o:Obj):Off S a (b.alloc o):=
 ⟨h.os,h.tape,h.output,Nat.le_trans h.size sj,λj hj hn=>(Below.heap_alloc _ _ _ (Nat.lt_of_lt_of_le hj h.size)).trans (h.block j hj hn)⟩
theorem Off.of_below {S:List Nat} {a b:World} (h:Below a.heap.size a b):Off S a b:=⟨h.os,h.tape,h.output,h.size,λj hj _=>h.block j hj⟩
theorem Row.off {w w':World} {g m:Nat} {f:Nat→Value} {S:List Nat} (h:Row w g m f) (o:Off S w w') (hg:g∉S):Row w' g m f:=h.of_block (o.block g h.lt hg)
structure Bo (A B:List Nat) (w w':World):Prop where
 off:Off A w w'
 fQ:∀j∈B,j∈A∨w.heap.size≤j
theorem Bo.refl (A:List Nat) (w:World):Bo A A w w:=⟨Off.refl _ _,λ_ h=>.inl h⟩
theorem Bo.trans {A B C:List Nat} {a b c:World} (h:Bo A B a b) (k:Bo B C b c):Bo A C a c:=
 ⟨h.off.trans k.off h.fQ,λj hj=>(k.fQ j hj).elim (h.fQ j) λe=>.inr (Nat.le_trans h.off.size e)⟩
theorem Bo.aX {A:List Nat} {a b:World} (h:Off [] a b):Bo A A a b:=⟨h.mono λj hj=>(by cases hj),λ_ h=>.inl h⟩
theorem Bo.sub {A B C:List Nat} {a b:World} (h:Bo A B a b) (hs:∀j∈C,j∈B):Bo A C a b:=⟨h.off,λj hj=>h.fQ j (hs j hj)⟩
theorem Bo.drew {A B:List Nat} {a b:World} (h:Bo A B a b):Bo A B a b.drew:=⟨h.off.drew,h.fQ⟩
theorem Bo.setCell {A B:List Nat} {a b:World} (h:Bo A B a b) {p:Addr} (hp:p.block∈A) (v:Value):Bo A B a (b.setCell p v):=⟨h.off.setCell hp v,h.fQ⟩
theorem Bo.far {A B C:List Nat} {w w':World} (h:Bo A B w w') (hC:∀j∈C,j<w.heap.size) (hd:∀j∈C,j∉A):(∀j∈C,w'.heap[j]?=w.heap[j]?)∧∀j∈C,j∉B:=
 ⟨λj hj=>h.off.block j (hC j hj) (hd j hj),λj hj hb=>(h.fQ j hb).elim (hd j hj) λe=>oC (hC j hj)⟩
theorem aC {w:World} {p:Addr} {v:Value} (j:Nat) (hj:j≠p.block):(w.setCell p v).heap[j]?=w.heap[j]?:=Below.heap_setCell _ _ _ _ hj
def dR (t:Int):Prop:=-9223372036854775808≤t∧t≤9223372036854775807
theorem Nb {a b:Int} (ha:dR a) (hb:1≤b∧b≤9223372036854775807) (w:World):
  Calls Tryz.prog 79 #[.int .i64 a,.int .i64 b] w λe w'=>e=.returned (.tuple #[.int .i64 (if a+b≤9223372036854775807 then a+b else 0),.int .i64 (if a+b≤9223372036854775807 then 0 else 7)])∧w'=w:=by
 unfold dR at ha;have d0:decide (b<0)=false:=dF om
 by_cases c1:a<0
 ·have d1:decide (a<0)=true:=dP c1;have hw:IntKind.i64.wrap (a+b)=a+b:=IntWalk.i64_in _ om;have c2:a+b≤9223372036854775807:=om;rw[if_pos c2,if_pos c2];clear c1 c2 ha hb;go_in;go_wp2;go_ret2;exact⟨rfl,rfl⟩
 ·have d1:decide (a<0)=false:=dF c1
  by_cases c2:a+b≤9223372036854775807
  ·have hw:IntKind.i64.wrap (a+b)=a+b:=IntWalk.i64_in _ om;have d2:decide (a+b<0)=false:=dF om;rw[if_pos c2,if_pos c2];clear c1 c2 ha hb;go_in;go_wp2;go_ret2;exact⟨rfl,rfl⟩
  ·obtain⟨s,hs⟩:=nE (IntKind.i64.wrap (a+b))
   have hsv:s=a+b-18446744073709551616:=by rw[←hs];exact(IntKind.wrap_i64 _).trans om
   have d2:decide (s<0)=true:=dP om;rw[if_neg c2,if_neg c2];clear c1 c2 ha hb hsv;go_in;go_wp2;go_ret2;exact⟨rfl,rfl⟩
def Kl (w:World) (b:Nat) (sp nw:Int):Prop:=Row w b 2 (λi=>(#[Value.int .i64 sp,.int .i64 nw]:Array Value).getD i undef)
theorem Kl.c0 {w:World} {b:Nat} {sp nw:Int} (h:Kl w b sp nw):w.cell? ⟨b,0,none⟩=some (.int .i64 sp):=Row.cell h (i:=0) om
theorem Kl.c1 {w:World} {b:Nat} {sp nw:Int} (h:Kl w b sp nw):w.cell? ⟨b,1,none⟩=some (.int .i64 nw):=Row.cell h (i:=1) om
theorem Kl.set {w:World} {b:Nat} {sp nw:Int} (h:Kl w b sp nw) (t:Int):Kl (w.setCell ⟨b,1,none⟩ (.int .i64 t)) b sp t:=
 (Row.set h 1 (.int .i64 t)).congr λi hi=>by match i,hi with |0,_=>rfl |1,_=>rfl |n+2,k=>omega
def BZ (sp:Int):Prop:=1≤sp∧sp≤9223372036854775807
section
variable {w:World} {b:Nat} {sp nw t:Int}
theorem vw (h:Kl w b sp nw) (hs:BZ sp):
  Calls Tryz.prog 40 #[.pointer (some ⟨b,0,none⟩)] w λe w'=>e=.returned (.bool true)∧w'=w:=by
 have c0:=h.c0;have d0:decide (sp≥1)=true:=dP hs.1;have d1:decide (1≤sp)=true:=dP hs.1;clear h hs;go_in;go_wp2;go_ret;exact⟨rfl,rfl⟩
theorem vC (hs:BZ sp) (ht:dR t) (w:World):
  Calls Tryz.prog 41 #[.int .i64 sp,.int .i64 t] w λe w'=>e=.returned (.tuple #[.int .i64 (if t+sp≤9223372036854775807 then t+sp else 0),.int .i64 (if t+sp≤9223372036854775807 then 0 else 7)])∧w'=w:=by
 have H:=jh (Nb ht hs w);obtain⟨x,hx⟩:∃x,(if t+sp≤9223372036854775807 then t+sp else 0)=x:=⟨_,rfl⟩;obtain⟨y,hy⟩:∃y:Int,(if t+sp≤9223372036854775807 then 0 else 7)=y:=⟨_,rfl⟩;rw[hx,hy] at H⊢;clear hx hy hs ht;go_in;go_wp2_with fail;apply mO H;rintro e w1 ⟨rfl,rfl⟩;go_wp2;go_ret2;exact⟨rfl,rfl⟩
def J2 (sp nw t:Int):Int:=if t<nw then 10 else if t+sp≤9223372036854775807 then 0 else 7
theorem vB (h:Kl w b sp nw) (hs:BZ sp) (ht:dR t):
  Calls Tryz.prog 16 #[.pointer (some ⟨b,0,none⟩),.int .i64 t] w λe w'=>e=.returned (.int .i64 (J2 sp nw t))∧w'=w:=by
 have c0:=h.c0;have c1:=h.c1;have HV:=jh (vw h hs)
 by_cases c:t<nw
 ·have d0:decide (t<nw)=true:=dP c;have e0:J2 sp nw t=10:=if_pos c;rw[e0];clear h hs ht c e0;go_in;go_wp2_with fail;apply mO HV;rintro e w1 ⟨rfl,rfl⟩;go_wp2;go_ret;exact⟨rfl,rfl⟩
 ·have d0:decide (t<nw)=false:=dF c;have H:=jh (vC hs ht w);obtain⟨x,hx⟩:∃x,(if t+sp≤9223372036854775807 then t+sp else 0)=x:=⟨_,rfl⟩;obtain⟨y,hy⟩:∃y:Int,(if t+sp≤9223372036854775807 then 0 else 7)=y:=⟨_,rfl⟩;have e0:J2 sp nw t=y:=(if_neg c).trans hy;rw[hx,hy] at H;rw[e0];clear h hs ht c e0 hx hy;go_in;go_wp2_with fail;apply mO HV;rintro e w1 ⟨rfl,rfl⟩;go_wp2_with fail;apply mO H;rintro e w1 ⟨rfl,rfl⟩;go_wp2;go_ret;exact⟨rfl,rfl⟩
theorem MZ (h:Kl w b sp nw) (hs:BZ sp) (ht:dR t):
  Calls Tryz.prog 19 #[.pointer (some ⟨b,0,none⟩),.int .i64 t] w λe w'=>e=.returned (.int .i64 (J2 sp nw t))∧(J2 sp nw t=0∧w'=w.setCell ⟨b,1,none⟩ (.int .i64 t)∨J2 sp nw t≠0∧w'=w):=by
 have c1:=h.c1;have f1:=Row.frozen h 1;have H:=jh (vB h hs ht);obtain⟨y,hy⟩:=nE (J2 sp nw t);rw[hy] at H⊢;clear h hs ht hy
 by_cases c:y=0
 ·subst c;go_in;go_wp2_with fail;apply mO H;rintro e w1 ⟨rfl,rfl⟩;go_wp2;go_ret;refine⟨rfl,.inl ⟨?_,rfl⟩⟩;trivial
 ·have d0:(y==0)=false:=by simp[c]
  have HC:=jh c;clear c;go_in;go_wp2_with fail;apply mO H;rintro e w1 ⟨rfl,rfl⟩;go_wp2;go_ret;exact⟨rfl,.inr ⟨HC.out,rfl⟩⟩
theorem MX (h:Kl w b sp nw) (hs:BZ sp) (ht:dR t) (hf:t+sp≤9223372036854775807):
  Calls Tryz.prog 46 #[.pointer (some ⟨b,0,none⟩),.int .i64 t] w λe w'=>e=.returned (.tuple #[.int .i64 (t+sp),.int .i64 0])∧w'=w:=by
 have c0:=h.c0;have HV:=jh (vw h hs);have H:=jh (vC hs ht w);rw[if_pos hf,if_pos hf] at H;obtain⟨x,hx⟩:=nE (t+sp);rw[hx] at H⊢;clear h hs ht hf hx;go_in;go_wp2_with fail;apply mO HV;rintro e w1 ⟨rfl,rfl⟩;go_wp2_with fail;apply mO H;rintro e w1 ⟨rfl,rfl⟩;go_wp2;go_ret2;exact⟨rfl,rfl⟩
theorem MW (hs:BZ sp) (w:World):
  Calls Tryz.prog 36 #[.int .i64 sp] w λe w'=>e=.returned (.tuple #[.pointer (some ⟨w.heap.size,0,none⟩),.int .i64 0])∧Kl w' w.heap.size sp 0∧Off [] w w':=by
 have d0:decide (sp<1)=false:=dF (oC hs.1);clear hs;go_in;go_wp2;go_ret2;refine⟨rfl,?_,(Off.refl [] w).alloc _⟩;exact Row.lit _ _ _ (Nat.le_refl _) lC
end
structure Sp where
 add:Bool
 r:Rc
def zy:Sp:=⟨false,Fh⟩
def spC (L:List Sp) (i j:Nat):Value:=if j=0 then .bool (L.getD i zy).add else if j=1 then .int .u64 (L.getD i zy).r.u else if j=2 then .int .u64 (L.getD i zy).r.v else if j=3 then .int .i64 (L.getD i zy).r.w else .int .i64 (L.getD i zy).r.t
abbrev SS (w:World) (B:Nat) (v:Value) (L:List Sp) (A:Nat→Addr):Prop:=Rd 24 5 w B v L.length (spC L) A
def aat (L:List Sp):Prop:=∀i<L.length,(Lit.int .u64 (L.getD i zy).r.u).wf=true∧(Lit.int .u64 (L.getD i zy).r.v).wf=true∧dR (L.getD i zy).r.w∧dR (L.getD i zy).r.t
section
variable {w:World} {A:Nat→Addr} {sa:Option Addr} {cap:Nat} {L:List Sp}
theorem Yo {B:Nat} {v:Value} (h:SS w B v L A) {i:Nat} (hi:i<L.length):w.cell? (A i)=some (.bool (L.getD i zy).add)∧w.cell? ⟨(A i).block,(A i).off+1,none⟩=some (.int .u64 (L.getD i zy).r.u)∧w.cell? ⟨(A i).block,(A i).off+2,none⟩=some (.int .u64 (L.getD i zy).r.v)∧w.cell? ⟨(A i).block,(A i).off+3,none⟩=some (.int .i64 (L.getD i zy).r.w)∧w.cell? ⟨(A i).block,(A i).off+4,none⟩=some (.int .i64 (L.getD i zy).r.t):=by
 refine⟨?_,h.cell i hi 1 om,h.cell i hi 2 om,h.cell i hi 3 om,h.cell i hi 4 om⟩;have:=h.cell i hi 0 om
 rwa [add_zero] at this
end
section
variable {w:World}
theorem KV (W E V D:Int) (sa:Option Addr) (m sc:Nat) (_:m≤9223372036854775807):
  Calls Tryz.prog 5 #[.agg #[.int .i64 W,.int .i64 E,.int .i64 V,.int .i64 D],.slice sa m sc] w λe w'=>e=.returned (.bool (decide (V≤12)&&decide (E≤30)&&decide ((m:Int)≤60)))∧Off [] w w':=by
 by_cases h1:V≤12
 ·have d1:decide (V≤12)=true:=dP h1
  by_cases h2:E≤30
  ·have d2:decide (E≤30)=true:=dP h2;go_in;go_wp2;go_ret;exact⟨by simp[d1,d2],(Off.refl _ _).alloc _⟩
  ·have d2:decide (E≤30)=false:=dF h2;go_in;go_wp2;go_ret;exact⟨sj,(Off.refl _ _).alloc _⟩
 ·have d1:decide (V≤12)=false:=dF h1;go_in;go_wp2;go_ret;exact⟨sj,(Off.refl _ _).alloc _⟩
end
def Sep (G:Nat→List Nat):Prop:=∀i j,i≠j→∀x∈G i,x∉G j
def gW (G:Nat→List Nat) (i:Nat) (B:List Nat):Nat→List Nat:=λj=>if j=i then B else G j
def blG (n:Nat) (G:Nat→List Nat):List Nat:=(List.range n).flatMap G
theorem bP {n:Nat} {G:Nat→List Nat} {x:Nat}:x∈blG n G↔∃i,i<n∧x∈G i:=by
 unfold blG;simp[List.mem_flatMap]
section
variable {n i:Nat} {G:Nat→List Nat} {B:List Nat} {w w':World}
theorem Sep.turn (h:Sep G) (lt:∀i,∀x∈G i,x<w.heap.size) (bo:Bo (G i) B w w'):Sep (gW G i B)∧∀j,j≠i→∀x∈G j,w'.heap[x]?=w.heap[x]?:=by
 refine⟨λa b hab x hx hy=>?_,λj hj x hx=>bo.off.block x (lt j x hx) (h j i hj x hx)⟩;unfold gW at hx hy
 by_cases ca:a=i
 ·rw[if_pos ca] at hx;rw[if_neg (λe=>hab (ca.trans e.symm))] at hy
  rcases bo.fQ x hx with h1 |h1
  ·exact h b i (λe=>hab (ca.trans e.symm)) x hy h1
  ·have:=lt b x hy;omega
 ·rw[if_neg ca] at hx
  by_cases cb:b=i
  ·rw[if_pos cb] at hy
   rcases bo.fQ x hy with h1 |h1
   ·exact h a i ca x hx h1
   ·have:=lt a x hx;omega
  ·rw[if_neg cb] at hy;exact h a b hab x hx hy
theorem Bo.aP (bo:Bo (G i) B w w') (hi:i<n):Bo (blG n G) (blG n (gW G i B)) w w':=by
 refine⟨bo.off.mono λj hj=>.inl (bP.2 ⟨i,hi,hj⟩),λj hj=>?_⟩;obtain⟨k,hk,hj⟩:=bP.1 hj;unfold gW at hj
 by_cases c:k=i
 ·rw[if_pos c] at hj;exact(bo.fQ j hj).imp (λe=>bP.2 ⟨i,hi,e⟩) id
 ·rw[if_neg c] at hj;exact .inl (bP.2 ⟨k,hk,hj⟩)
theorem dZ {i:Nat}:gW G i (G i)=G:=by
 funext j;unfold gW
 split
 ·rename_i c;rw[c]
 ·rfl
end
section
variable {w w':World} {base n cap g i size:Nat} {e:TypeId} {xs:List Value} {u:Value}
theorem nR (h:w.ownsRow base e size (.slice (some ⟨g,0,none⟩) n cap) n xs) (u:Value):(w.setCell ⟨g,i,none⟩ u).ownsRow base e size (.slice (some ⟨g,0,none⟩) n cap) n (xs.set i u):=by
 refine⟨by rw[List.length_set];exact h.1,?_⟩
 rcases h.2 with⟨h0,_⟩ |⟨g',cap',cur,h1,hb,hg,hn,hm,hs,ht⟩
 ·cases h0
 ·cases h1;refine .inr ⟨g,cap,cur.setIfInBounds i u,rfl,hb,?_,hn,hm,by simpa using hs,?_⟩
  ·simp[World.setCell,Array.getElem?_modify,hg]
  ·rw[Array.toList_setIfInBounds,List.take_set,ht]
theorem aD (h:w.ownsRow base e size (.slice (some ⟨g,0,none⟩) n cap) n xs) (hu:xs[i]?=some u):w.cell? ⟨g,i,none⟩=some u∧w.frozen? ⟨g,i,none⟩=false:=by
 have hi:i<n*size:=oD ((List.getElem?_eq_some_iff.1 hu).1) h.1
 rcases h.2 with⟨h0,_⟩ |⟨g',cap',cur,h1,_,hg,_,_,_,ht⟩
 ·cases h0
 ·cases h1;refine⟨?_,by simp[World.frozen?,hg]⟩
  have h3:(cur.toList.take (n*size))[i]?=some u:=by rw[ht];exact hu
  rw[List.getElem?_take,if_pos hi,Array.getElem?_toList] at h3;simp[World.cell?,hg,h3]
theorem zF {m:Nat} (h:w.ownsRow base e size (.slice (some ⟨g,0,none⟩) n cap) n xs) (hm:m≤n):w.ownsRow base e size (.slice (some ⟨g,0,none⟩) m cap) m (xs.take (m*size)):=by
 have hle:m*size≤n*size:=Nat.mul_le_mul_right _ hm;refine⟨by rw[List.length_take,h.1];omega,?_⟩
 rcases h.2 with⟨h0,_⟩ |⟨g',cap',cur,h1,hb,hg,hn,hc,hs,ht⟩
 ·cases h0
 ·cases h1;refine .inr ⟨g,cap,cur,rfl,hb,hg,om,hc,hs,?_⟩;rw[←ht,List.take_take,Nat.min_eq_left hle]
end
def yX (L:List En):List Value:=L.flatMap λe=>[.int .i64 (e.i:Nat),.int .i64 e.k]
theorem bB {L:List En} {p:Nat} (hp:p<L.length):(yX L)[p*2]?=some (.int .i64 ((aB L p).i:Nat))∧(yX L)[p*2+1]?=some (.int .i64 (aB L p).k):=by
 induction L generalizing p with
 |nil=>exact absurd hp sj
 |cons a L ih=>
  cases p with
  |zero=>exact⟨rfl,rfl⟩
  |succ p=>
   have h:=ih (p:=p) (by simpa using hp);have e:aB (a::L) (p+1)=aB L p:=rfl;rw[e];refine⟨?_,?_⟩
   ·rw[←h.1,show(p+1)*2=p*2+1+1 by omega];rfl
   ·rw[←h.2,show(p+1)*2+1=p*2+1+1+1 by omega];rfl
theorem JO {L:List En} {p:Nat} (hp:p<L.length) (e:En):((yX L).set (p*2) (.int .i64 (e.i:Nat))).set (p*2+1) (.int .i64 e.k)=yX (L.set p e):=by
 induction L generalizing p with
 |nil=>exact absurd hp sj
 |cons a L ih=>
  cases p with
  |zero=>rfl
  |succ p=>
   have h:=ih (p:=p) (by simpa using hp);show _=_::_::yX (L.set p e);rw[←h,show(p+1)*2=p*2+1+1 by omega]
   rfl
theorem RQ (L:List En) (e:En):yX (L++[e])=yX L++[.int .i64 (e.i:Nat),.int .i64 e.k]:=by
 unfold yX;rw[List.flatMap_append];rfl
theorem RP (L:List En) (n:Nat):(yX L).take (n*2)=yX (L.take n):=by
 induction L generalizing n with
 |nil=>simp[yX]
 |cons a L ih=>
  cases n with
  |zero=>simp[yX]
  |succ n=>
   show(_::_::yX L).take _=_::_::yX (L.take n);rw[show(n+1)*2=n*2+1+1 by omega,List.take_succ_cons,List.take_succ_cons,ih]
structure gU (S:Nat) (pl:Nat→Nat) (L:List En):Prop where
 lt:∀p<L.length,(aB L p).i<S
 at_:∀p<L.length,pl (aB L p).i=p+1
 inv:∀i<S,pl i≠0→pl i≤L.length∧(aB L (pl i-1)).i=i
structure bY where
 h:Nat
 g:Option Nat
 pb:Nat
 pv:Nat→Option Nat
def bY.has (f:bY) (S:Nat) (j:Nat):Prop:=j=f.h∨f.g=some j∨j=f.pb∨∃k,k<(S+63) / 64∧f.pv k=some j
structure eT (w:World) (f:bY) (S:Nat) (sv:Value) (pl:Nat→Nat) (L:List En):Prop where
 hr:Row w f.h 4 (λi=>(#[Value.pointer (some ⟨f.h,0,none⟩),.int .i64 (S:Nat),sv,.slice (some ⟨f.pb,0,none⟩) ((S+63) / 64:Nat) ((S+63) / 64)]:Array Value).getD i undef)
 ow:w.ownsRow 0 110 2 sv L.length (yX L)
 og:sv.ownBlock=f.g
 pr:Row w f.pb ((S+63) / 64) (λk=>.pointer ((f.pv k).map λc=>⟨c,0,none⟩))
 bk:∀k<(S+63) / 64,∀c,f.pv k=some c→Row w c 64 (λj=>.int .i64 (pl (64*k+j):Nat))
 zz:∀i,i / 64<(S+63) / 64→f.pv (i / 64)=none→pl i=0
 n1:f.h≠f.pb
 n2:f.g≠some f.h∧f.g≠some f.pb
 n3:∀k c,k<(S+63) / 64→f.pv k=some c→c≠f.h∧c≠f.pb∧f.g≠some c
 n4:∀k k' c,k<(S+63) / 64→k'<(S+63) / 64→f.pv k=some c→f.pv k'=some c→k=k'
def bY.bl (f:bY) (S:Nat):List Nat:=f.h::f.pb::(f.g.toList++(List.range ((S+63) / 64)).filterMap f.pv)
theorem bY.ak {f:bY} {S j:Nat}:j∈f.bl S↔f.has S j:=by
 unfold bY.bl bY.has;simp only[List.mem_cons,List.mem_append,Option.mem_toList,List.mem_filterMap,List.mem_range];constructor
 ·rintro(h |h |h |h)
  ·exact .inl h
  ·exact .inr (.inr (.inl h))
  ·exact .inr (.inl h)
  ·exact .inr (.inr (.inr h))
 ·rintro(h |h |h |h)
  ·exact .inl h
  ·exact .inr (.inr (.inl h))
  ·exact .inr (.inl h)
  ·exact .inr (.inr (.inr h))
theorem aN {w:World} {base size n:Nat} {e:TypeId} {v:Value} {xs:List Value} (h:w.ownsRow base e size v n xs) {g:Nat} (hg:v.ownBlock=some g):g<w.heap.size:=by
 rcases h.2 with⟨rfl,_⟩ |⟨g',cap,cur,rfl,_,hg2,_⟩
 ·cases hg
 ·have:g'=g:=by simpa [Value.ownBlock] using hg
  subst this;exact Array.getElem?_eq_some_iff.1 hg2 |>.1
theorem aG {w w':World} {base size n:Nat} {e:TypeId} {v:Value} {xs:List Value} (h:w.ownsRow base e size v n xs) (hk:∀g,v.ownBlock=some g→w'.heap[g]?=w.heap[g]?):w'.ownsRow base e size v n xs:=by
 refine⟨h.1,h.2.imp id ?_⟩;rintro⟨g,cap,cur,rfl,e2,e3,e4⟩;exact⟨g,cap,cur,rfl,e2,(hk g rfl).trans e3,e4⟩
section
variable {w w':World} {f:bY} {S:Nat} {sv:Value} {pl:Nat→Nat} {L:List En}
theorem eT.lt (h:eT w f S sv pl L) {j:Nat} (hj:f.has S j):j<w.heap.size:=by
 rcases hj with rfl |hj |rfl |⟨k,hk,hj⟩
 ·exact h.hr.lt
 ·exact aN h.ow (h.og.trans hj)
 ·exact h.pr.lt
 ·exact(h.bk k hk j hj).lt
theorem eT.keep (h:eT w f S sv pl L) (e:∀j,f.has S j→w'.heap[j]?=w.heap[j]?):eT w' f S sv pl L:=
 ⟨h.hr.of_block (e _ (.inl rfl)),aG h.ow λg hg=>e g (.inr (.inl (h.og.symm.trans hg))),h.og,h.pr.of_block (e _ (.inr (.inr (.inl rfl)))),λk hk c hc=>(h.bk k hk c hc).of_block (e _ (.inr (.inr (.inr ⟨k,hk,hc⟩)))),h.zz,h.n1,h.n2,h.n3,h.n4⟩
theorem eT.c0 (h:eT w f S sv pl L):w.cell? ⟨f.h,0,none⟩=some (.pointer (some ⟨f.h,0,none⟩)):=h.hr.c 0
theorem eT.c1 (h:eT w f S sv pl L):w.cell? ⟨f.h,1,none⟩=some (.int .i64 (S:Nat)):=h.hr.c 1
theorem eT.c2 (h:eT w f S sv pl L):w.cell? ⟨f.h,2,none⟩=some sv:=h.hr.c 2
theorem eT.c3 (h:eT w f S sv pl L):w.cell? ⟨f.h,3,none⟩=some (.slice (some ⟨f.pb,0,none⟩) ((S+63) / 64:Nat) ((S+63) / 64)):=h.hr.c 3
theorem eT.dn (h:eT w f S sv pl L) (q:Nat):eT (w.drewN q) f S sv pl L:=h.keep λj _=>sj
theorem eT.Xg (h:eT w f S sv pl L) {i c:Nat} (hi:i<S) (hc:f.pv (i / 64)=some c) (v:Nat):eT (w.setCell ⟨c,i%64,none⟩ (.int .i64 (v:Nat))) f S sv (λj=>if j=i then v else pl j) L:=by
 have hk:i / 64<(S+63) / 64:=om;obtain⟨d1,d2,d3⟩:=h.n3 _ _ hk hc;refine⟨Row.setOther h.hr (λe=>d1 e.symm) _,aG h.ow λg hg=>Below.heap_setCell _ _ _ _ (λe=>d3 (by rw[←h.og,hg,e])),h.og,Row.setOther h.pr (λe=>d2 e.symm) _,λk hk2 c2 hc2=>?_,λj hj hn=>?_,h.n1,h.n2,h.n3,h.n4⟩
 ·by_cases e:k=i / 64
  ·subst e;obtain rfl:c2=c:=Option.some.inj (hc2.symm.trans hc);refine((h.bk _ hk c2 hc2).set (i%64) (.int .i64 v)).congr λj hj=>?_
   by_cases e:j=i%64
   ·rw[if_pos e,if_pos om]
   ·rw[if_neg e,if_neg om]
  ·refine(Row.setOther (h.bk k hk2 c2 hc2) (λe2=>e (h.n4 k _ c2 hk2 hk hc2 (by rw[hc];exact congrArg some e2.symm))) _).congr λj hj=>?_;rw[if_neg om]
 ·have:j≠i:=λe=>by rw[e,hc] at hn;cases hn
  rw[if_neg this];exact h.zz j hj hn
def bY.nH (f:bY) (k c:Nat):bY:={ f with pv:=λj=>if j=k then some c else f.pv j }
theorem eT.ahq (h:eT w f S sv pl L) {k:Nat} (hk:k<(S+63) / 64) (hn:f.pv k=none) (o:Obj) (ho:Row (w.alloc o) w.heap.size 64 (λ_=>.int .i64 0)):
  eT ((w.alloc o).setCell ⟨f.pb,k,none⟩ (.pointer (some ⟨w.heap.size,0,none⟩))) (f.nH k w.heap.size) S sv pl L:=by
 have hpb:=h.pr.lt;have hh:=h.hr.lt;have hd:∀j<w.heap.size,j≠f.pb→((w.alloc o).setCell ⟨f.pb,k,none⟩ (.pointer (some ⟨w.heap.size,0,none⟩))).heap[j]?=w.heap[j]?:=λj hj hne=>(Below.heap_setCell _ _ _ _ hne).trans (Below.heap_alloc _ _ _ hj)
 have PI:∀j c,(f.nH k w.heap.size).pv j=some c→j=k∧c=w.heap.size∨j≠k∧f.pv j=some c:=λj c e=>by
  unfold bY.nH at e;simp only at e
  by_cases c1:j=k
  ·rw[if_pos c1] at e;exact .inl ⟨c1,(Option.some.inj e).symm⟩
  ·rw[if_neg c1] at e;exact .inr ⟨c1,e⟩
 refine⟨h.hr.of_block (hd _ hh h.n1),aG h.ow λg hg=>hd g (aN h.ow hg) (λe=>h.n2.2 (by rw[←h.og,hg,e])),h.og,?_,λj hj c hc=>?_,λj hj hz=>?_,h.n1,h.n2,λj c hj hc=>?_,λj j' c hj hj' hc hc'=>?_⟩
 ·refine((h.pr.alloc o).set k (.pointer (some ⟨w.heap.size,0,none⟩))).congr λj _=>?_;show _=Value.pointer (((f.nH k w.heap.size).pv j).map _);unfold bY.nH;simp only
  by_cases c1:j=k
  ·rw[if_pos c1,if_pos c1];rfl
  ·rw[if_neg c1,if_neg c1]
 ·rcases PI j c hc with⟨rfl,rfl⟩ |⟨c1,hc⟩
  ·refine(Row.setOther ho (by show w.heap.size≠f.pb;omega) _).congr λx hx=>?_;rw[h.zz (64*j+x) (by rw[show(64*j+x) / 64=j by omega];exact hj) (by rw[show(64*j+x) / 64=j by omega];exact hn)];rfl
  ·have hb:=h.bk j hj c hc;exact hb.of_block (hd c hb.lt (h.n3 j c hj hc).2.1)
 ·refine h.zz j hj ?_;unfold bY.nH at hz;simp only at hz
  by_cases c1:j / 64=k
  ·rw[if_pos c1] at hz;cases hz
  ·rwa [if_neg c1] at hz
 ·rcases PI j c hc with⟨rfl,rfl⟩ |⟨c1,hc⟩
  ·exact⟨by show _≠f.h;omega,by show _≠f.pb;omega,λe=>oC (aN h.ow (h.og.trans e))⟩
  ·exact h.n3 j c hj hc
 ·rcases PI j c hc with⟨e1,e2⟩ |⟨_,h1⟩
  ·rcases PI j' c hc' with⟨e3,_⟩ |⟨_,h2⟩
   ·rw[e1,e3]
   ·have:=(h.bk j' hj' _ h2).lt;omega
  ·rcases PI j' c hc' with⟨_,e4⟩ |⟨_,h2⟩
   ·have:=(h.bk j hj _ h1).lt;omega
   ·exact h.n4 j j' c hj hj' h1 h2
end
def slF (s:Nat) (a t:Int):Nat→Value
 |0=>.int .i64 (s:Nat)
 |1=>.int .i64 a
 |_=>.int .u64 t
def Fg (st:Nat→Nat) (af tm:Nat→Int) (k j:Nat):Value:=slF (st (64*k+j / 3)) (af (64*k+j / 3)) (tm (64*k+j / 3)) (j%3)
def arH (h:Nat) (sv:Value) (S bg us:Nat) (la:Int) (i:Nat):Value:=(#[Value.pointer (some ⟨h,0,none⟩),sv,.int .i64 (S:Nat),.int .i64 (bg:Nat),.int .i64 (us:Nat),.int .i64 la]:Array Value).getD i undef
structure iI where
 h:Nat
 g:Option Nat
 nb:Nat
 bs:Nat→Nat
def iI.bl (f:iI):List Nat:=f.h::(f.g.toList++(List.range f.nb).map f.bs)
def AV (f:iI):List Value:=(List.range f.nb).map λk=>.pointer (some ⟨f.bs k,0,none⟩)
structure dL (w:World) (f:iI) (S:Nat) (sv:Value) (bg us:Nat) (la:Int) (st:Nat→Nat) (af tm:Nat→Int):Prop where
 hr:Row w f.h 6 (arH f.h sv S bg us la)
 ow:w.ownsRow 0 223 1 sv f.nb (AV f)
 og:sv.ownBlock=f.g
 bk:∀k<f.nb,Row w (f.bs k) 192 (Fg st af tm k)
 n1:f.g≠some f.h
 n2:∀k<f.nb,f.bs k≠f.h∧f.g≠some (f.bs k)
 n3:∀k k',k<f.nb→k'<f.nb→f.bs k=f.bs k'→k=k'
theorem iI.ak {f:iI} {j:Nat}:j∈f.bl↔j=f.h∨f.g=some j∨∃k,k<f.nb∧f.bs k=j:=by
 unfold iI.bl;simp only[List.mem_cons,List.mem_append,Option.mem_toList,List.mem_map,List.mem_range]
section
variable {w w':World} {f:iI} {S bg us:Nat} {sv:Value} {la:Int} {st:Nat→Nat} {af tm:Nat→Int}
theorem dL.lt (h:dL w f S sv bg us la st af tm):∀j∈f.bl,j<w.heap.size:=λj hj=>by
 rcases iI.ak.1 hj with rfl |hj |⟨k,hk,rfl⟩
 ·exact h.hr.lt
 ·exact aN h.ow (h.og.trans hj)
 ·exact(h.bk k hk).lt
theorem dL.keep (h:dL w f S sv bg us la st af tm) (e:∀j∈f.bl,w'.heap[j]?=w.heap[j]?):dL w' f S sv bg us la st af tm:=
 ⟨h.hr.of_block (e _ (iI.ak.2 (.inl rfl))),aG h.ow λg hg=>e g (iI.ak.2 (.inr (.inl (h.og.symm.trans hg)))),h.og,λk hk=>(h.bk k hk).of_block (e _ (iI.ak.2 (.inr (.inr ⟨k,hk,rfl⟩)))),h.n1,h.n2,h.n3⟩
theorem dL.dn (h:dL w f S sv bg us la st af tm) (q:Nat):dL (w.drewN q) f S sv bg us la st af tm:=h.keep λj _=>sj
theorem dL.c0 (h:dL w f S sv bg us la st af tm):w.cell? ⟨f.h,0,none⟩=some (.pointer (some ⟨f.h,0,none⟩)):=h.hr.c 0
theorem dL.c1 (h:dL w f S sv bg us la st af tm):w.cell? ⟨f.h,1,none⟩=some sv:=h.hr.c 1
theorem dL.c2 (h:dL w f S sv bg us la st af tm):w.cell? ⟨f.h,2,none⟩=some (.int .i64 (S:Nat)):=h.hr.c 2
theorem dL.c3 (h:dL w f S sv bg us la st af tm):w.cell? ⟨f.h,3,none⟩=some (.int .i64 (bg:Nat)):=h.hr.c 3
theorem dL.c4 (h:dL w f S sv bg us la st af tm):w.cell? ⟨f.h,4,none⟩=some (.int .i64 (us:Nat)):=h.hr.c 4
theorem dL.c5 (h:dL w f S sv bg us la st af tm):w.cell? ⟨f.h,5,none⟩=some (.int .i64 la):=h.hr.c 5
theorem dL.fz (h:dL w f S sv bg us la st af tm) (q:Nat):w.frozen? ⟨f.h,q,none⟩=false:=h.hr.frozen q
theorem dL.sl (h:dL w f S sv bg us la st af tm) (h0:0<f.nb):∃g cap,sv=.slice (some ⟨g,0,none⟩) f.nb cap∧f.g=some g:=by
 rcases h.ow.2 with⟨_,e⟩ |⟨g,cap,cur,e,_⟩
 ·omega
 ·exact⟨g,cap,e,by rw[←h.og,e];rfl⟩
theorem UU {f:iI} {k:Nat} (hk:k<f.nb):(AV f)[k]?=some (.pointer (some ⟨f.bs k,0,none⟩)):=by
 unfold AV;simp[hk]
theorem dL.pc {g cap:Nat} (h:dL w f S (.slice (some ⟨g,0,none⟩) f.nb cap) bg us la st af tm) {k:Nat} (hk:k<f.nb):w.cell? ⟨g,k,none⟩=some (.pointer (some ⟨f.bs k,0,none⟩)):=(lG h.ow (UU hk)).1
theorem dL.s_at (h:dL w f S sv bg us la st af tm) {k r c:Nat} (hk:k<f.nb) (hr:r<64) (hc:c<3):w.cell? ⟨f.bs k,r*3+c,none⟩=some (slF (st (64*k+r)) (af (64*k+r)) (tm (64*k+r)) c):=by
 have:=(h.bk k hk).c (r*3+c);rw[this];unfold Fg;rw[show(r*3+c) / 3=r by omega,show(r*3+c)%3=c by omega]
theorem dL.s0 (h:dL w f S sv bg us la st af tm) {k r:Nat} (hk:k<f.nb) (hr:r<64):w.cell? ⟨f.bs k,r*3,none⟩=some (.int .i64 (st (64*k+r):Nat)):=h.s_at hk hr (c:=0) om
theorem dL.s1 (h:dL w f S sv bg us la st af tm) {k r:Nat} (hk:k<f.nb) (hr:r<64):w.cell? ⟨f.bs k,r*3+1,none⟩=some (.int .i64 (af (64*k+r))):=h.s_at hk hr (c:=1) om
theorem dL.s2 (h:dL w f S sv bg us la st af tm) {k r:Nat} (hk:k<f.nb) (hr:r<64):w.cell? ⟨f.bs k,r*3+2,none⟩=some (.int .u64 (tm (64*k+r))):=h.s_at hk hr (c:=2) om
theorem dL.sf (h:dL w f S sv bg us la st af tm) {k:Nat} (hk:k<f.nb) (q:Nat):w.frozen? ⟨f.bs k,q,none⟩=false:=(h.bk k hk).frozen q
theorem dL.hdr {xY us':Nat} {la':Int} (h:dL w f S sv bg us la st af tm) (o:∀j,j≠f.h→j<w.heap.size→w'.heap[j]?=w.heap[j]?) (hr:Row w' f.h 6 (arH f.h sv S xY us' la')):dL w' f S sv xY us' la' st af tm:=
 ⟨hr,aG h.ow λg hg=>o g (λe=>h.n1 (by rw[←h.og,hg,e])) (aN h.ow hg),h.og,λk hk=>(h.bk k hk).of_block (o _ (h.n2 k hk).1 (h.bk k hk).lt),h.n1,h.n2,h.n3⟩
theorem dL.I6 (h:dL w f S sv bg us la st af tm) (v:Int):dL (w.setCell ⟨f.h,5,none⟩ (.int .i64 v)) f S sv bg us v st af tm:=
 h.hdr (λj hj _=>aC j hj) ((h.hr.set 5 (.int .i64 v)).congr lC)
theorem dL.I4 (h:dL w f S sv bg us la st af tm) (v:Nat):dL (w.setCell ⟨f.h,4,none⟩ (.int .i64 (v:Nat))) f S sv bg v la st af tm:=
 h.hdr (λj hj _=>aC j hj) ((h.hr.set 4 (.int .i64 v)).congr lC)
theorem dL.Xh (h:dL w f S sv bg us la st af tm) (v:Nat):dL (w.setCell ⟨f.h,3,none⟩ (.int .i64 (v:Nat))) f S sv v us la st af tm:=
 h.hdr (λj hj _=>aC j hj) ((h.hr.set 3 (.int .i64 v)).congr lC)
theorem dL.slot {k r c:Nat} {v:Value} {x:Nat} {a t:Int} (h:dL w f S sv bg us la st af tm) (hk:k<f.nb) (hr:r<64) (hc:c<3) (hv:∀d<3,(if d=c then v else slF (st (64*k+r)) (af (64*k+r)) (tm (64*k+r)) d)=slF x a t d):
  dL (w.setCell ⟨f.bs k,r*3+c,none⟩ v) f S sv bg us la (dV st (64*k+r) x) (dV af (64*k+r) a) (dV tm (64*k+r) t):=by
 obtain⟨d1,d2⟩:=h.n2 k hk;refine⟨Row.setOther h.hr (λe=>d1 e.symm) _,aG h.ow λg hg=>Below.heap_setCell _ _ _ _ (λe=>d2 (by rw[←h.og,hg,e])),h.og,λk' hk'=>?_,h.n1,h.n2,h.n3⟩
 by_cases e:k'=k
 ·subst e;refine((h.bk k' hk).set (r*3+c) v).congr λj hj=>?_;unfold Fg
  by_cases e1:j / 3=r
  ·have h1:=hv (j%3) (Nat.mod_lt _ (by decide));rw[e1,fH,fH,fH,←h1]
   by_cases c1:j%3=c
   ·rw[if_pos c1,if_pos om]
   ·rw[if_neg c1,if_neg om]
  ·rw[if_neg om,eU om,eU om,eU om]
 ·refine(Row.setOther (h.bk k' hk') (λe2=>e (h.n3 _ _ hk' hk e2)) _).congr λj hj=>?_;unfold Fg;rw[eU om,eU om,eU om]
theorem jH {α:Type} (f:Nat→α) (i:Nat):dV f i (f i)=f:=by
 funext j;unfold dV;split
 ·rename_i e;rw[e]
 ·rfl
theorem dL.setSt {k r:Nat} (h:dL w f S sv bg us la st af tm) (hk:k<f.nb) (hr:r<64) (v:Nat):dL (w.setCell ⟨f.bs k,r*3,none⟩ (.int .i64 (v:Nat))) f S sv bg us la (dV st (64*k+r) v) af tm:=by
 have:=h.slot (c:=0) (v:=.int .i64 v) (x:=v) hk hr om (λd hd=>by match d,hd with |0,_=>rfl |1,_=>rfl |2,_=>rfl |n+3,k=>omega)
 rwa [jH,jH] at this
theorem dL.Jf {k r:Nat} (h:dL w f S sv bg us la st af tm) (hk:k<f.nb) (hr:r<64) (v:Int):dL (w.setCell ⟨f.bs k,r*3+1,none⟩ (.int .i64 v)) f S sv bg us la st (dV af (64*k+r) v) tm:=by
 have:=h.slot (c:=1) (v:=.int .i64 v) (a:=v) hk hr om (λd hd=>by match d,hd with |0,_=>rfl |1,_=>rfl |2,_=>rfl |n+3,k=>omega)
 rwa [jH,jH] at this
theorem dL.Pj {k r:Nat} (h:dL w f S sv bg us la st af tm) (hk:k<f.nb) (hr:r<64) (v:Int):dL (w.setCell ⟨f.bs k,r*3+2,none⟩ (.int .u64 v)) f S sv bg us la st af (dV tm (64*k+r) v):=by
 have:=h.slot (c:=2) (v:=.int .u64 v) (t:=v) hk hr om (λd hd=>by match d,hd with |0,_=>rfl |1,_=>rfl |2,_=>rfl |n+3,k=>omega)
 rwa [jH,jH] at this
end
def yH (w:World) (f:iI) (S:Nat) (U:List Nat) (bg:Nat):Prop:=
 ∃sv us la st af tm R,dL w f S sv bg us la st af tm∧kC S bg us la st af U R∧f.nb=(bg+63) / 64
section
variable {w w':World} {f:iI} {S bg:Nat} {U:List Nat}
theorem yH.lt (h:yH w f S U bg):∀j∈f.bl,j<w.heap.size:=by
 obtain⟨sv,us,la,st,af,tm,R,h1,_⟩:=h;exact h1.lt
theorem yH.keep (h:yH w f S U bg) (e:∀j∈f.bl,w'.heap[j]?=w.heap[j]?):yH w' f S U bg:=by
 obtain⟨sv,us,la,st,af,tm,R,h1,h2,h3⟩:=h;exact⟨sv,us,la,st,af,tm,R,h1.keep e,h2,h3⟩
end
theorem Tryz.Y1:(Tryz.prog.info? 190).isSome=true:=by kernel_rfl
theorem WA (a:Addr) (w:World):(binOp .eql 132 (.pointer (some a)) (.pointer (some a))).run Tryz.prog w=.ok (.bool true) w:=by
 obtain⟨j,hj⟩:=Option.isSome_iff_exists.1 Tryz.Y1;exact run_eql_ptr_same w a Tryz.underlying132 hj
section
variable {w:World} {f:iI} {S bg us:Nat} {sv:Value} {la:Int} {st:Nat→Nat} {af tm:Nat→Int} {U R:List Nat}
theorem dW (h:dL w f S sv bg us la st af tm):
  Calls Tryz.prog 101 #[.pointer (some ⟨f.h,0,none⟩)] w λe w'=>e=.returned (.bool true)∧w'=w:=by
 have c0:=h.c0;have eq:=WA ⟨f.h,0,none⟩;clear h;go_in;go_wp2;go_ret;exact⟨rfl,rfl⟩
theorem pO (h:dL w f S sv bg us la st af tm) {i k r:Nat} (hk:i / 64=k) (hr:i%64=r) (hi:k<f.nb) (hS:f.nb≤1024):
  Calls Tryz.prog 103 #[.pointer (some ⟨f.h,0,none⟩),.int .i64 (i:Nat)] w λe w'=>e=.returned (.pointer (some ⟨f.bs k,r*3,none⟩))∧w'=w:=by
 obtain⟨g,cap,rfl,hg⟩:=h.sl om;obtain⟨nb,hnb⟩:=nE f.nb;have c1:=h.c1;have pc:=h.pc hi;rw[hnb] at c1 hS hi;have bk:(0:Int)≤k∧(k:Int)<nb∧(nb:Int)≤1024:=om;have br:(0:Int)≤r∧(r:Int)<64:=om
 have e1:(i:Int).tdiv 64=k:=by rw[Int.tdiv_eq_ediv_of_nonneg om];omega
 have e2:(i:Int).tmod 64=r:=by rw[Int.tmod_eq_emod_of_nonneg om];omega
 have bi:(0:Int)≤i∧(i:Int)≤65536:=om;clear h hk hr hnb hg;go_in;go_wp2;go_ret;exact⟨rfl,rfl⟩
theorem x9 (h:dL w f S sv bg us la st af tm) (hn:f.nb=(bg+63) / 64) (hb:bg≤65536) {i:Nat} (hi:i≤65536):
  Calls Tryz.prog 102 #[.pointer (some ⟨f.h,0,none⟩),.int .i64 (i:Nat)] w λe w'=>e=.returned (.int .i64 ((if i<bg then st i else 0:Nat):Int))∧w'=w:=by
 have c3:=h.c3;have bi:(0:Int)≤i∧(i:Int)≤65536∧(0:Int)≤bg∧(bg:Int)≤65536:=om
 by_cases hlt:i<bg
 ·rw[if_pos hlt];obtain⟨k,hk⟩:=nE (i / 64);obtain⟨r,hr⟩:=nE (i%64);have d1:decide ((i:Int)≥bg)=false:=dF om;have d2:decide (bg≤i)=false:=dF om;have d3:decide ((bg:Int)≤i)=false:=dF om;have s0:=h.s0 (k:=k) (r:=r) om om;rw[show 64*k+r=i by omega] at s0;have HA:=jh (pO h hk hr om om);obtain⟨y,hy⟩:=nE (st i);rw[hy] at s0⊢;clear h hn hk hr hlt hy;go_in;go_wp2_with fail;apply mO HA;rintro e w1 ⟨rfl,rfl⟩;go_wp2;go_ret;exact⟨rfl,rfl⟩
 ·rw[if_neg hlt];have d1:decide ((i:Int)≥bg)=true:=dP om;have d2:decide (bg≤i)=true:=dP om;have d3:decide ((bg:Int)≤i)=true:=dP om;clear h hn hlt;go_in;go_wp2;go_ret;exact⟨rfl,rfl⟩
def Qh (S bg:Nat):List Nat→Option Nat
 |i::_=>some i
 |[]=>if bg<S then some bg else none
def mh:Option Nat→Value
 |some i=>.tuple #[.int .i64 (i:Nat),.bool true]
 |none=>.tuple #[.int .i64 0,.bool false]
theorem Aj {i:Nat} (h:dL w f S sv bg us la st af tm) (o:kC S bg us la st af U (i::R)):
  Calls Tryz.prog 128 #[.pointer (some ⟨f.h,0,none⟩)] w λe w'=>e=.returned (.tuple #[.int .i64 (i:Nat),.bool true])∧w'=w:=by
 have c5:=h.c5;have HV:=jh (dW h);obtain rfl:la=(i:Nat):=o.ch.1;have d0:(((i:Nat):Int)==(-1:Int))=false:=sj;have bi:(0:Int)≤i:=om;clear h o;go_in;go_wp2_with fail;apply mO HV;rintro e w1 ⟨rfl,rfl⟩;go_wp2;go_ret2;exact⟨rfl,rfl⟩
theorem Ak (h:dL w f S sv bg us la st af tm) (o:kC S bg us la st af U R):
  Calls Tryz.prog 128 #[.pointer (some ⟨f.h,0,none⟩)] w λe w'=>e=.returned (mh (Qh S bg R))∧∃q,w'=w.drewN q:=by
 have c5:=h.c5;have c3:=h.c3;have c2:=h.c2;have HV:=jh (dW h);have hch:=o.ch
 cases R with
 |cons i R=>exact(Aj h o).mono λe w' ⟨h1,h2⟩=>⟨h1,0,h2⟩
 |nil=>
  obtain rfl:la=-1:=hch;have c3':∀q,(w.drewN q).cell? ⟨f.h,3,none⟩=some (.int .i64 bg):=λq=>(h.dn q).c3;have c2':∀q,(w.drewN q).cell? ⟨f.h,2,none⟩=some (.int .i64 S):=λq=>(h.dn q).c2
  by_cases hb:bg<S
  ·have d1:decide ((bg:Int)<S)=true:=dP om;have d2:decide (bg<S)=true:=dP hb;have e0:Qh S bg []=some bg:=if_pos hb;rw[e0];show Calls _ _ _ _ λe w'=>e=.returned (.tuple #[.int .i64 bg,.bool true])∧∃q,w'=w.drewN q;clear h o hb e0 c2 c3;go_in;go_wp2_with fail;apply mO HV;rintro e w1 ⟨rfl,rfl⟩;go_wp2
   go_quiet (fail)
   go_wp2;go_ret2;exact⟨rfl,_,rfl⟩
  ·have d1:decide ((bg:Int)<S)=false:=dF om;have d2:decide (bg<S)=false:=dF hb;have e0:Qh S bg []=none:=if_neg hb;rw[e0];show Calls _ _ _ _ λe w'=>e=.returned (.tuple #[.int .i64 0,.bool false])∧∃q,w'=w.drewN q;clear h o hb e0 c2 c3;go_in;go_wp2_with fail;apply mO HV;rintro e w1 ⟨rfl,rfl⟩;go_wp2
   go_quiet (fail)
   go_wp2;go_ret2;exact⟨rfl,_,rfl⟩
theorem SN (h:dL w f S sv bg us la st af tm):
  Calls Tryz.prog 80 #[.pointer (some ⟨f.h,0,none⟩)] w λe w'=>e=.returned (.int .i64 (us:Nat))∧w'=w:=by
 have c4:=h.c4;have HV:=jh (dW h);clear h;go_in;go_wp2_with fail;apply mO HV;rintro e w1 ⟨rfl,rfl⟩;go_wp2;go_ret;exact⟨rfl,rfl⟩
end
section
variable {w:World} {f:iI} {S bg us:Nat} {sv:Value} {la:Int} {st:Nat→Nat} {af tm:Nat→Int} {U R:List Nat}
theorem Am (h:yH w f S U bg) (hS:S≤65536) {i:Nat} (hi:i∈U):
  Calls Tryz.prog 57 #[.pointer (some ⟨f.h,0,none⟩),.int .i64 (i:Nat)] w λe w'=>e=.returned (.int .i64 0)∧yH w' f S (U.erase i) bg∧Bo f.bl f.bl w w':=by
 obtain⟨sv,us,la,st,af,tm,R,h,o,hn⟩:=h;obtain⟨k,hk⟩:=nE (i / 64);obtain⟨r,hr⟩:=nE (i%64);have hib:=o.lt hi;have hle:=o.le;have hkn:k<f.nb:=om;have kI:r<64:=om;have hik:64*k+r=i:=om;obtain⟨u,hu⟩:∃u,us=u+1:=⟨us-1,oD o.Oc (List.length_pos_of_mem hi)⟩;have wu:(us:Int)-1=(u:Int):=om;have bu:(0:Int)≤u∧(u:Int)≤65536∧(0:Int)≤us∧(us:Int)≤65537:=oD o.Oc o.Uc;have bi:(0:Int)≤i∧(i:Int)≤65536:=om;have d1:decide ((i:Int)<0)=false:=dF om;have d2:decide ((i:Int)≥S)=false:=dF om;have d3:decide ((S:Int)≤i)=false:=dF om;have d4:decide (S≤i)=false:=dF om;have c2:=h.c2;have HV:=jh (dW h);have HT:=jh (x9 h hn om (i:=i) om);rw[if_pos hib,o.stU i hi] at HT;have HA:=jh (pO h hk hr hkn om);have a0:=h.s0 hkn kI;have a1:=h.sf hkn (r*3);have h1:dL (w.setCell ⟨f.bs k,r*3,none⟩ (.int .i64 2)) f S sv bg us la (dV st (64*k+r) 2) af tm:=h.setSt hkn kI 2;have b0:=h1.s1 hkn kI;have b1:=h1.sf hkn (r*3+1);have b2:=h1.c5;have h2:=h1.Jf hkn kI la;have e0:=h2.c5;have e1:=h2.fz 5;have h3:=h2.I6 i;have g0:=h3.c4;have g1:=h3.fz 4;have h4:=h3.I4 u;have HF:=jh h4;have HO:=jh o
 have CK:Hid (Off f.bl w ((((w.setCell ⟨f.bs k,r*3,none⟩ (.int .i64 2)).setCell ⟨f.bs k,r*3+1,none⟩ (.int .i64 la)).setCell ⟨f.h,5,none⟩ (.int .i64 i)).setCell ⟨f.h,4,none⟩ (.int .i64 u))):=jh (by
  have m1:f.bs k∈f.bl:=iI.ak.2 (.inr (.inr ⟨k,hkn,rfl⟩));have m2:f.h∈f.bl:=iI.ak.2 (.inl rfl)
  exact((((Off.refl f.bl w).setCell (p:=⟨f.bs k,r*3,none⟩) m1 _).setCell (p:=⟨f.bs k,r*3+1,none⟩) m1 _).setCell (p:=⟨f.h,5,none⟩) m2 _).setCell (p:=⟨f.h,4,none⟩) m2 _)
 have HU:=jh hu;have HN:=jh hn;have HK:=jh hik;clear h h1 h2 h3 h4 o hn hu hik hib hle hk hr hkn kI;go_in;go_wp2_with fail;apply mO HV;rintro e w1 ⟨rfl,rfl⟩;go_wp2_with fail;apply mO HT;rintro e w1 ⟨rfl,rfl⟩;go_wp2_with fail;apply mO HA;rintro e w1 ⟨rfl,rfl⟩;go_wp2;go_ret;have hF:=HF.out;rw[HK.out] at hF;have hO:=HO.out.free hi;rw[HU.out,Nat.add_sub_cancel] at hO;exact⟨rfl,⟨sv,u,i,_,_,tm,i::R,hF,hO,HN.out⟩,⟨CK.out,λ_ hj=>.inl hj⟩⟩
end
theorem adY:ET 188 223 1 8:=ET.of Tryz.underlying188 (z:=.pointer none) (by kernel_rfl) rfl (by decide)
theorem Xb:Tryz.zeroCells225=((List.range 192).map λi=>slF 0 0 0 (i%3)).toArray:=by kernel_rfl
def zh {α:Type} (nb:Nat) (f:Nat→α) (z:α):Nat→α:=λi=>if i<64*nb then f i else z
section
variable {w:World} {f:iI} {S bg us:Nat} {sv:Value} {la:Int} {st:Nat→Nat} {af tm:Nat→Int} {U R:List Nat}
theorem dL.cg (h:dL w f S sv bg us la st af tm):dL w f S sv bg us la (zh f.nb st 0) (zh f.nb af 0) (zh f.nb tm 0):=by
 refine⟨h.hr,h.ow,h.og,λk hk=>(h.bk k hk).congr λj hj=>?_,h.n1,h.n2,h.n3⟩;unfold Fg zh;rw[if_pos (show 64*k+j / 3<64*f.nb by omega),if_pos (show 64*k+j / 3<64*f.nb by omega),if_pos (show 64*k+j / 3<64*f.nb by omega)]
theorem kC.cg {nb:Nat} (o:kC S bg us la st af U R) (hb:bg≤64*nb):kC S bg us la (zh nb st 0) (zh nb af 0) U R:=by
 have e:∀i,i∈U∨i∈R→i<64*nb:=λi hi=>Nat.lt_of_lt_of_le ((o.mem i).2 hi) hb;refine⟨o.nd,o.ndR,o.dj,o.Uc,o.Oc,o.le,o.mem,λi hi=>?_,λi hi=>?_,o.ch.congr λi hi=>?_⟩
 ·unfold zh;rw[if_pos (e i (.inl hi))];exact o.stU i hi
 ·unfold zh;rw[if_pos (e i (.inr hi))];exact o.uj i hi
 ·unfold zh;rw[if_pos (e i (.inr hi))]
theorem ag5 (w:World) (nb:Nat) (st:Nat→Nat) (af tm:Nat→Int):Row (w.alloc (.cells Tryz.zeroCells225 225)) w.heap.size 192 (Fg (zh nb st 0) (zh nb af 0) (zh nb tm 0) nb):=by
 refine⟨_,_,heap_alloc_new _ _,λi hi=>?_⟩;rw[Xb];unfold Fg zh;rw[if_neg (show ¬64*nb+i / 3<64*nb by omega),if_neg (show ¬64*nb+i / 3<64*nb by omega),if_neg (show ¬64*nb+i / 3<64*nb by omega)];simp[hi]
theorem dL.grow (h:dL w f S sv bg us la st af tm) {o:Obj} {g cap B:Nat} {w1:World} (hB:w.heap.size=B) (ho:Row (w.alloc o) B 192 (Fg st af tm f.nb)) (how:w1.ownsRow 0 223 1 (.slice (some ⟨g,0,none⟩) (f.nb+1:Nat) cap) (f.nb+1) (AV f++[.pointer (some ⟨B,0,none⟩)])) (hg:(w.alloc o).grownBy w1 sv.ownBlock) (hv:Moved (w.alloc o) sv g):
  dL (w1.setCell ⟨f.h,1,none⟩ (.slice (some ⟨g,0,none⟩) (f.nb+1:Nat) cap)) { f with g:=some g,nb:=f.nb+1,bs:=dV f.bs f.nb B } S (.slice (some ⟨g,0,none⟩) (f.nb+1:Nat) cap) bg us la st af tm∧Bo f.bl (iI.bl { f with g:=some g,nb:=f.nb+1,bs:=dV f.bs f.nb B }) w (w1.setCell ⟨f.h,1,none⟩ (.slice (some ⟨g,0,none⟩) (f.nb+1:Nat) cap)):=by
 subst hB;have hsz:(w.alloc o).heap.size=w.heap.size+1:=sj;have hd0:∀j<w.heap.size+1,f.g≠some j→w1.heap[j]?=(w.alloc o).heap[j]?:=λj hj hn=>hg.block j om λc=>hn (h.og.symm.trans c.symm);have hd:∀j<w.heap.size,f.g≠some j→w1.heap[j]?=w.heap[j]?:=λj hj hn=>(hd0 j om hn).trans (Below.heap_alloc _ _ _ hj);have hgl:∀j,f.g=some j→j<w.heap.size:=λj hj=>h.lt j (iI.ak.2 (.inr (.inl hj)))
 have Ru:∀j<w.heap.size+1,f.g≠some j→g≠j:=λj hj hn e=>by
  rcases hv with c |c
  ·exact hn (by rw[←h.og,c,e])
  ·omega
 have gh:=Ru _ (oC h.hr.lt) h.n1;have gB:g≠w.heap.size:=Ru _ om λe=>oC (hgl _ e);have XI:∀k<f.nb,dV f.bs f.nb w.heap.size k=f.bs k:=λk hk=>eU om;have hbl:∀k<f.nb,f.bs k<w.heap.size:=λk hk=>(h.bk k hk).lt;have ne0:f.g≠some w.heap.size:=λe=>oC (hgl _ e);refine⟨⟨?_,?_,rfl,λk hk=>?_,λe=>gh (Option.some.inj e),λk hk=>?_,λk k' hk hk' e=>?_⟩,⟨?_,λj hj=>?_⟩⟩
 ·exact((h.hr.of_block (hd _ h.hr.lt h.n1)).set 1 (.slice (some ⟨g,0,none⟩) (f.nb+1:Nat) cap)).congr λi hi=>by match i,hi with |0,_=>rfl |1,_=>rfl |2,_=>rfl |3,_=>rfl |4,_=>rfl |5,_=>rfl |n+6,k=>omega
 ·have e:AV { f with g:=some g,nb:=f.nb+1,bs:=dV f.bs f.nb w.heap.size }=AV f++[.pointer (some ⟨w.heap.size,0,none⟩)]:=by
   unfold AV;rw[List.range_succ,List.map_append]
   congr 1
   ·exact List.map_congr_left λk hk=>by
     show Value.pointer (some ⟨dV f.bs f.nb w.heap.size k,0,none⟩)=_;rw[XI k (List.mem_range.1 hk)]
   ·show[Value.pointer (some ⟨dV f.bs f.nb w.heap.size f.nb,0,none⟩)]=_;rw[fH]
  rw[e];exact aG how λx hx=>aC x λc=>gh ((show g=x by simpa [Value.ownBlock] using hx).trans c)
 ·have hk':k<f.nb+1:=hk
  by_cases c:k=f.nb
  ·subst c;show Row _ (dV f.bs f.nb w.heap.size f.nb) 192 _;rw[fH];exact Row.setOther (ho.of_block (hd0 _ om ne0)) (λe=>by have:=h.hr.lt;have e':w.heap.size=f.h:=e;omega) _
  ·have hk2:k<f.nb:=om;show Row _ (dV f.bs f.nb w.heap.size k) 192 _;rw[XI k hk2];exact Row.setOther ((h.bk k hk2).of_block (hd _ (hbl k hk2) (h.n2 k hk2).2)) (h.n2 k hk2).1 _
 ·have hk':k<f.nb+1:=hk;show dV f.bs f.nb w.heap.size k≠f.h∧some g≠some (dV f.bs f.nb w.heap.size k)
  by_cases c:k=f.nb
  ·subst c;rw[fH];exact⟨λe=>oC h.hr.lt,λe=>gB (Option.some.inj e)⟩
  ·have hk2:k<f.nb:=om;rw[XI k hk2];exact⟨(h.n2 k hk2).1,λe=>Ru _ (oC (hbl k hk2)) (h.n2 k hk2).2 (Option.some.inj e)⟩
 ·have h1:k<f.nb+1:=hk;have h2:k'<f.nb+1:=hk';have e':dV f.bs f.nb w.heap.size k=dV f.bs f.nb w.heap.size k':=e
  by_cases c:k=f.nb<;>by_cases c':k'=f.nb
  ·omega
  ·rw[c,fH,XI k' om] at e';have:=hbl k' om;omega
  ·rw[c',fH,XI k om] at e';have:=hbl k om;omega
  ·rw[XI k om,XI k' om] at e';exact h.n3 k k' om om e'
 ·have hoff:Off f.bl w w1:=⟨hg.os,hg.tape,hg.output,oC hg.size,λj hj hn=>hd j hj λc=>hn (iI.ak.2 (.inr (.inl c)))⟩;exact hoff.setCell (p:=⟨f.h,1,none⟩) (iI.ak.2 (.inl rfl)) _
 ·rcases iI.ak.1 hj with e |e |⟨k,hk,e⟩
  ·exact .inl (iI.ak.2 (.inl e))
  ·have:g=j:=Option.some.inj e
   rcases hv with c |c
   ·exact .inl (iI.ak.2 (.inr (.inl (by rw[←h.og,c,this]))))
   ·exact .inr om
  ·have hk':k<f.nb+1:=hk;have e':dV f.bs f.nb w.heap.size k=j:=e
   by_cases c:k=f.nb
   ·rw[c,fH] at e';exact .inr om
   ·rw[XI k om] at e';exact .inl (iI.ak.2 (.inr (.inr ⟨k,om,e'⟩)))
def Ch (w:World) (f:iI) (S:Nat) (U:List Nat) (bg:Nat) (e:Ending) (w':World):Prop:=
 ∃i f' xY,e=.returned (.tuple #[.int .i64 (i:Nat),.int .i64 0])∧i∉U∧i<S∧(xY=bg∧i<bg∨i=bg∧xY=bg+1)∧yH w' f' S (i::U) xY∧f'.h=f.h∧Bo f.bl f'.bl w w'
theorem Ic {i:Nat} (h:dL w f S sv bg us la st af tm) (o:kC S bg us la st af U (i::R)) (hn:f.nb=(bg+63) / 64) (hS:S≤65536):
  Calls Tryz.prog 90 #[.pointer (some ⟨f.h,0,none⟩)] w (Ch w f S U bg):=by
  obtain⟨k,hk⟩:=nE (i / 64);obtain⟨r,hr⟩:=nE (i%64);have hib:i<bg:=(o.mem i).2 (.inr sj);have hle:=o.le;have hkn:k<f.nb:=om;have kI:r<64:=om;have hik:64*k+r=i:=om;obtain⟨u1,hu⟩:=nE (us+1);have wu:(us:Int)+1=(u1:Int):=om;have bu:(0:Int)≤us∧(us:Int)≤65536∧(0:Int)≤u1∧(u1:Int)≤65537:=oD o.Oc o.Uc;have bi:(0:Int)≤i∧(i:Int)≤65536:=om;obtain rfl:la=(i:Nat):=o.ch.1;have c5:=h.c5;have f5:=h.fz 5;have HV:=jh (dW h);have HN:Hid (Calls Tryz.prog 128 #[.pointer (some ⟨f.h,0,none⟩)] w λe w'=>e=.returned (.tuple #[.int .i64 i,.bool true])∧w'=w):=jh (Aj h o);have HA:=jh (pO h hk hr hkn om);have a1:=h.s1 hkn kI;have h1:=h.I6 (af (64*k+r));have HA1:=jh (pO h1 hk hr hkn om);obtain⟨tx,htx⟩:=nE (IntKind.u64.wrap (tm (64*k+r)+1));have p0:=h1.s0 hkn kI;have p1:=h1.sf hkn (r*3);have t1:dL ((w.setCell ⟨f.h,5,none⟩ (.int .i64 (af (64*k+r)))).setCell ⟨f.bs k,r*3,none⟩ (.int .i64 1)) f S _ _ us _ (dV st (64*k+r) 1) af tm:=h1.setSt hkn kI 1;have p2:=t1.s1 hkn kI;have p3:=t1.sf hkn (r*3+1);have t2:=t1.Jf hkn kI (-1);have p4:=t2.s2 hkn kI;have p5:=t2.sf hkn (r*3+2);have t3:=t2.Pj hkn kI tx;have p6:=t3.c4;have p7:=t3.fz 4;have t4:=t3.I4 u1;have HF:=jh t4
  have HTl:Hid (Off f.bl (w.setCell ⟨f.h,5,none⟩ (.int .i64 (af (64*k+r)))) (((((w.setCell ⟨f.h,5,none⟩ (.int .i64 (af (64*k+r)))).setCell ⟨f.bs k,r*3,none⟩ (.int .i64 1)).setCell ⟨f.bs k,r*3+1,none⟩ (.int .i64 (-1))).setCell ⟨f.bs k,r*3+2,none⟩ (.int .u64 tx)).setCell ⟨f.h,4,none⟩ (.int .i64 u1))):=jh (by
   have m1:f.bs k∈f.bl:=iI.ak.2 (.inr (.inr ⟨k,hkn,rfl⟩));have m2:f.h∈f.bl:=iI.ak.2 (.inl rfl)
   exact((((Off.refl f.bl _).setCell (p:=⟨f.bs k,r*3,none⟩) m1 _).setCell (p:=⟨f.bs k,r*3+1,none⟩) m1 _).setCell (p:=⟨f.bs k,r*3+2,none⟩) m1 _).setCell (p:=⟨f.h,4,none⟩) m2 _)
  have HO:=jh o.pop;have HU:=jh hu;have Ug:=jh hn;have HK:=jh hik;have HB:=jh (And.intro hib hle);have XY:Hid (i∉U):=jh λc=>o.dj i c sj;clear h h1 t1 t2 t3 t4 o hn hu hik hib hle hk hr hkn kI;go_in;go_wp2_with fail;apply mO HV;rintro e w1 ⟨rfl,rfl⟩;go_wp2_with fail;apply mO HN;rintro e w1 ⟨rfl,rfl⟩;go_wp2_with fail;apply mO HA;rintro e w1 ⟨rfl,rfl⟩;go_wp2_with fail;apply mO HA1;rintro e w1 ⟨rfl,rfl⟩;go_wp2;go_ret2;have hF:=HF.out;have hO:=HO.out;rw[HU.out] at hO;rw[HK.out] at hF;refine⟨i,f,bg,rfl,XY.out,oC HB.out,.inl ⟨rfl,HB.out.1⟩,⟨sv,u1,af i,_,_,dV tm i tx,R,?_,hO,Ug.out⟩,rfl,⟨?_,λ_ hj=>.inl hj⟩⟩
  ·rw[HK.out];exact hF
  ·exact((Off.refl f.bl w1).setCell (p:=⟨f.h,5,none⟩) (iI.ak.2 (.inl rfl)) _).trans HTl.out λ_ hj=>.inl hj
theorem Ie (h:dL w f S sv bg us la st af tm) (o:kC S bg us la st af U []) (hn:f.nb=(bg+63) / 64) (hS:S≤65536) (hlt:bg<S) (hm:bg%64≠0):
  Calls Tryz.prog 90 #[.pointer (some ⟨f.h,0,none⟩)] w (Ch w f S U bg):=by
  obtain⟨k,hk⟩:=nE (bg / 64);obtain⟨r,hr⟩:=nE (bg%64);have kI:r<64:=om;have hik:64*k+r=bg:=om;obtain⟨u1,hu⟩:=nE (us+1);have wu:(us:Int)+1=(u1:Int):=om;obtain⟨b1,hb1⟩:=nE (bg+1);have wb:(bg:Int)+1=(b1:Int):=om;have bu:(0:Int)≤us∧(us:Int)≤65536∧(0:Int)≤u1∧(u1:Int)≤65537:=oD o.Oc o.Uc;have bi:(0:Int)≤bg∧(bg:Int)≤65536∧(0:Int)≤b1∧(b1:Int)≤65537:=om;obtain rfl:la=-1:=o.ch;have d0:((bg:Int)==(-1:Int))=false:=sj
  have e2:(bg:Int).tmod 64=r:=by rw[Int.tmod_eq_emod_of_nonneg om];omega
  have HV:=jh (dW h)
  have HN:Hid (Calls Tryz.prog 128 #[.pointer (some ⟨f.h,0,none⟩)] w λe w'=>e=.returned (.tuple #[.int .i64 bg,.bool true])∧∃q,w'=w.drewN q):=jh (by
   have:=Ak h o;rw[show Qh S bg []=some bg from if_pos hlt] at this
   exact this)
  have HP:=jh o;have HH:=jh h;have Ug:=jh hn;have HO:=jh (o.new hlt);have HU:=jh hu;have HB1:=jh hb1;have HK:=jh hik;have HB:=jh (And.intro hlt hS);have XY:Hid (bg∉U):=jh λc=>Nat.lt_irrefl _ ((o.mem bg).2 (.inl c));have hkn:k<f.nb:=om
  have d1:((r:Int)==0)=false:=by simp;omega
  have d2:(r==0)=false:=by simp;omega
  have HR:=jh (And.intro hk (And.intro hr (And.intro hkn kI)));clear h o hn hu hb1 hik hk hr hS hlt hm;go_in;go_wp2_with fail;apply mO HV;rintro e w1 ⟨rfl,rfl⟩;go_wp2_with fail;apply mO HN;rintro e w2 ⟨rfl,q,hq⟩
  have h0:dL w2 f S sv bg us (-1) st af tm:=by rw[hq];exact HH.out.dn q
  have Kh:Hid (Off [] w1 w2):=jh (by rw[hq];exact(Off.refl [] w1).drewN q);clear hq;have hkn:=HR.out.2.2.1;have kI:=HR.out.2.2.2;have c5:=h0.c5;have c3:=h0.c3;have f3:=h0.fz 3;have h1:=h0.Xh b1;have HA1:=jh (pO h1 HR.out.1 HR.out.2.1 hkn (oD Ug.out HB.out));obtain⟨tx,htx⟩:=nE (IntKind.u64.wrap (tm (64*k+r)+1));have p0:=h1.s0 hkn kI;have p1:=h1.sf hkn (r*3);have t1:dL ((w2.setCell ⟨f.h,3,none⟩ (.int .i64 b1)).setCell ⟨f.bs k,r*3,none⟩ (.int .i64 1)) f S _ _ us _ (dV st (64*k+r) 1) af tm:=h1.setSt hkn kI 1;have p2:=t1.s1 hkn kI;have p3:=t1.sf hkn (r*3+1);have t2:=t1.Jf hkn kI (-1);have p4:=t2.s2 hkn kI;have p5:=t2.sf hkn (r*3+2);have t3:=t2.Pj hkn kI tx;have p6:=t3.c4;have p7:=t3.fz 4;have t4:=t3.I4 u1;have HF:=jh t4
  have HTl:Hid (Off f.bl (w2.setCell ⟨f.h,3,none⟩ (.int .i64 b1)) (((((w2.setCell ⟨f.h,3,none⟩ (.int .i64 b1)).setCell ⟨f.bs k,r*3,none⟩ (.int .i64 1)).setCell ⟨f.bs k,r*3+1,none⟩ (.int .i64 (-1))).setCell ⟨f.bs k,r*3+2,none⟩ (.int .u64 tx)).setCell ⟨f.h,4,none⟩ (.int .i64 u1))):=jh (by
   have m1:f.bs k∈f.bl:=iI.ak.2 (.inr (.inr ⟨k,hkn,rfl⟩));have m2:f.h∈f.bl:=iI.ak.2 (.inl rfl)
   exact((((Off.refl f.bl _).setCell (p:=⟨f.bs k,r*3,none⟩) m1 _).setCell (p:=⟨f.bs k,r*3+1,none⟩) m1 _).setCell (p:=⟨f.bs k,r*3+2,none⟩) m1 _).setCell (p:=⟨f.h,4,none⟩) m2 _)
  clear h0 h1 t1 t2 t3 t4 hkn kI;go_wp2_with fail;apply mO HA1;rintro e w3 ⟨rfl,rfl⟩;go_wp2;go_ret2;have hF:=HF.out;have hO:=HO.out;rw[HU.out] at hO;refine⟨bg,f,bg+1,rfl,XY.out,HB.out.1,.inr ⟨rfl,rfl⟩,⟨sv,u1,-1,_,_,dV tm bg tx,[],?_,hO,?_⟩,rfl,⟨?_,λ_ hj=>.inl hj⟩⟩
  ·rw[HK.out,←HB1.out] at hF;rw[←HB1.out];rw[HK.out] at*;exact hF
  ·have:=Ug.out;have:=HR.out;have:=HK.out;omega
  ·exact((Kh.out.mono (S':=f.bl) λ_ hj=>by cases hj).setCell (p:=⟨f.h,3,none⟩) (iI.ak.2 (.inl rfl)) _).trans HTl.out λ_ hj=>.inl hj
theorem Ig (h:dL w f S sv bg us la st af tm) (o:kC S bg us la st af U []) (hn:f.nb=(bg+63) / 64) (hS:S≤65536) (hlt:bg<S) (hm:bg%64=0):
  Calls Tryz.prog 90 #[.pointer (some ⟨f.h,0,none⟩)] w (Ch w f S U bg):=by
  obtain⟨k,hk⟩:=nE (bg / 64);obtain⟨r,hr⟩:=nE (bg%64);have kI:r<64:=om;have hik:64*k+r=bg:=om;obtain⟨u1,hu⟩:=nE (us+1);have wu:(us:Int)+1=(u1:Int):=om;obtain⟨b1,hb1⟩:=nE (bg+1);have wb:(bg:Int)+1=(b1:Int):=om;have bu:(0:Int)≤us∧(us:Int)≤65536∧(0:Int)≤u1∧(u1:Int)≤65537:=oD o.Oc o.Uc;have bi:(0:Int)≤bg∧(bg:Int)≤65536∧(0:Int)≤b1∧(b1:Int)≤65537:=om;obtain rfl:la=-1:=o.ch;have d0:((bg:Int)==(-1:Int))=false:=sj
  have e2:(bg:Int).tmod 64=r:=by rw[Int.tmod_eq_emod_of_nonneg om];omega
  have HV:=jh (dW h)
  have HN:Hid (Calls Tryz.prog 128 #[.pointer (some ⟨f.h,0,none⟩)] w λe w'=>e=.returned (.tuple #[.int .i64 bg,.bool true])∧∃q,w'=w.drewN q):=jh (by
   have:=Ak h o;rw[show Qh S bg []=some bg from if_pos hlt] at this
   exact this)
  have HP:=jh o;have HH:=jh h;have Ug:=jh hn;have HO:=jh (o.new hlt);have HU:=jh hu;have HB1:=jh hb1;have HK:=jh hik;have HB:=jh (And.intro hlt hS);have XY:Hid (bg∉U):=jh λc=>Nat.lt_irrefl _ ((o.mem bg).2 (.inl c));have hkn:k=f.nb:=om;have hr0:r=0:=om
  have d1:((r:Int)==0)=true:=by simp;omega
  have d2:(r==0)=true:=by simp;omega
  have yA:=jh hr0;have HR:=jh (And.intro hk (And.intro hr hkn));clear h o hn hu hb1 hik hk hr hS hlt hm hkn kI hr0;go_in;go_wp2_with fail;apply mO HV;rintro e w1 ⟨rfl,rfl⟩;go_wp2_with fail;apply mO HN;rintro e w2 ⟨rfl,q,hq⟩
  have h0:dL w2 f S sv bg us (-1) st af tm:=by rw[hq];exact HH.out.dn q
  have Kh:Hid (Off [] w1 w2):=jh (by rw[hq];exact(Off.refl [] w1).drewN q);clear hq;have c5:=h0.c5;have c1:=h0.c1;have HOW:Hid ((w2.alloc (.cells Tryz.zeroCells225 225)).ownsRow 0 223 1 sv f.nb (AV f)):=jh (h0.ow.alloc _);have H0:=jh h0;have bnb:f.nb≤1024:=oD Ug.out HB.out;clear h0
  go_wp2_with (at_builtin;refine push adY rfl _ _ rfl 0 _ _ _ HOW.out rfl #[.pointer (some ⟨w2.heap.size,0,none⟩)] _ rfl sj rfl (by simp[Value.oneCell']) om om (Nat.zero_le _) ?_;intro g cp w5 hown5 hg5 hv5;refine Hid.out ?_)
  have hz:=ag5 w2 f.nb st af tm;obtain⟨h6,b6⟩:=dL.grow H0.out.cg rfl hz hown5 hg5 hv5;have qP:w5.heap[f.h]?=w2.heap[f.h]?:=(hg5.block _ (by have:=H0.out.hr.lt;simp;omega) λc=>H0.out.n1 (H0.out.og.symm.trans c.symm)).trans (Below.heap_alloc _ _ _ H0.out.hr.lt);have c1:=(H0.out.hr.of_block qP).c 1;have c1f:=(H0.out.hr.of_block qP).frozen 1;obtain⟨f6,hf6⟩:∃f6:iI,({ f with g:=some g,nb:=f.nb+1,bs:=dV f.bs f.nb w2.heap.size }:iI)=f6:=⟨_,rfl⟩;rw[hf6] at h6 b6
  have hh6:f6.h=f.h:=by rw[←hf6]
  have hn6:f6.nb=f.nb+1:=by rw[←hf6]
  have c3:=h6.c3;have f3:=h6.fz 3;have h7:=h6.Xh b1;have hkn:k<f6.nb:=oC HR.out;have kI:r<64:=oC yA.out;have HA1:=jh (pO h7 HR.out.1 HR.out.2.1 hkn (oH Ug.out HB.out HR.out yA.out));rw[hh6] at c3 f3 HA1;have CP:=jh b6;have HH6:=jh hh6;have HN6:=jh hn6;obtain⟨tx,htx⟩:=nE (IntKind.u64.wrap (zh f.nb tm 0 (64*k+r)+1));have p0:=h7.s0 hkn kI;have p1:=h7.sf hkn (r*3);have t1:dL (((w5.setCell ⟨f.h,1,none⟩ (.slice (some ⟨g,0,none⟩) (f.nb+1:Nat) cp)).setCell ⟨f6.h,3,none⟩ (.int .i64 b1)).setCell ⟨f6.bs k,r*3,none⟩ (.int .i64 1)) f6 S _ _ us _ (dV (zh f.nb st 0) (64*k+r) 1) (zh f.nb af 0) (zh f.nb tm 0):=h7.setSt hkn kI 1;have p2:=t1.s1 hkn kI;have p3:=t1.sf hkn (r*3+1);have t2:=t1.Jf hkn kI (-1);have p4:=t2.s2 hkn kI;have p5:=t2.sf hkn (r*3+2);have t3:=t2.Pj hkn kI tx;have p6:=t3.c4;have p7:=t3.fz 4;have t4:=t3.I4 u1;have HF:=jh t4
  have HTl:Hid (Off f6.bl ((w5.setCell ⟨f.h,1,none⟩ (.slice (some ⟨g,0,none⟩) (f.nb+1:Nat) cp)).setCell ⟨f6.h,3,none⟩ (.int .i64 b1)) ((((((w5.setCell ⟨f.h,1,none⟩ (.slice (some ⟨g,0,none⟩) (f.nb+1:Nat) cp)).setCell ⟨f6.h,3,none⟩ (.int .i64 b1)).setCell ⟨f6.bs k,r*3,none⟩ (.int .i64 1)).setCell ⟨f6.bs k,r*3+1,none⟩ (.int .i64 (-1))).setCell ⟨f6.bs k,r*3+2,none⟩ (.int .u64 tx)).setCell ⟨f6.h,4,none⟩ (.int .i64 u1))):=jh (by
   have m1:f6.bs k∈f6.bl:=iI.ak.2 (.inr (.inr ⟨k,hkn,rfl⟩));have m2:f6.h∈f6.bl:=iI.ak.2 (.inl rfl)
   exact((((Off.refl f6.bl _).setCell (p:=⟨f6.bs k,r*3,none⟩) m1 _).setCell (p:=⟨f6.bs k,r*3+1,none⟩) m1 _).setCell (p:=⟨f6.bs k,r*3+2,none⟩) m1 _).setCell (p:=⟨f6.h,4,none⟩) m2 _)
  rw[hh6] at p0 p1 p2 p3 p4 p5 p6 p7;clear hz h6 b6 qP hh6 hn6 h7 hkn kI t1 t2 t3 t4 hown5 hg5 hv5 hf6;refine jh ?_;go_wp2_with fail;apply mO HA1;rintro e w7 ⟨rfl,rfl⟩;go_wp2;go_ret2;have hF:=HF.out;refine⟨bg,f6,bg+1,rfl,XY.out,HB.out.1,.inr ⟨rfl,rfl⟩,⟨.slice (some ⟨g,0,none⟩) (f.nb+1:Nat) cp,u1,-1,dV (zh f.nb st 0) bg 1,dV (zh f.nb af 0) bg (-1),dV (zh f.nb tm 0) bg tx,[],?_,?_,?_⟩,HH6.out,?_⟩
  ·rw[HK.out,←HB1.out,HH6.out] at hF;rw[←HB1.out];exact hF
  ·have:=(HP.out.cg (nb:=f.nb) (oF HR.out HK.out yA.out)).new HB.out.1;rw[HU.out] at this;exact this
  ·have:=HN6.out;have:=HR.out;have:=HK.out;have:=yA.out;omega
  ·have hT:=HTl.out;rw[HH6.out] at hT;exact(Bo.aX (Kh.out)).trans (CP.out.trans ⟨(Off.refl f6.bl _).setCell (p:=⟨f.h,3,none⟩) (iI.ak.2 (.inl HH6.out.symm)) _ |>.trans hT λ_ hj=>.inl hj,λ_ hj=>.inl hj⟩)
end
section
variable {w:World} {f:iI} {S bg us:Nat} {sv:Value} {la:Int} {st:Nat→Nat} {af tm:Nat→Int} {U R:List Nat}
theorem yg (h:yH w f S U bg) (hS:S≤65536) (hU:U.length<S):
  Calls Tryz.prog 90 #[.pointer (some ⟨f.h,0,none⟩)] w (Ch w f S U bg):=by
 obtain⟨sv,us,la,st,af,tm,R,m,o,hn⟩:=h
 cases R with
 |cons i R=>exact Ic m o hn hS
 |nil=>
  have hlt:bg<S:=by have:=o.Uc;simp only[List.length_nil] at this;omega
  by_cases c:bg%64=0
  ·exact Ig m o hn hS hlt c
  ·exact Ie m o hn hS hlt c
theorem uS (h:yH w f S U bg):
  Calls Tryz.prog 80 #[.pointer (some ⟨f.h,0,none⟩)] w λe w'=>e=.returned (.int .i64 (U.length:Nat))∧w'=w:=by
 obtain⟨sv,us,la,st,af,tm,R,m,o,hn⟩:=h;have:=SN m;rw[o.Oc] at this;exact this
theorem ER (w:World) (hS:S≤65536):
  Calls Tryz.prog 74 #[.int .i64 (S:Nat)] w λe w'=>e=.returned (.tuple #[.pointer (some ⟨w.heap.size,0,none⟩),.int .i64 0])∧yH w' ⟨w.heap.size,none,0,λ_=>0⟩ S [] 0∧Off [] w w':=by
 have d1:decide ((S:Int)<0)=false:=dF om;have d2:decide ((65536:Int)<S)=false:=dF om;have d3:decide (65536<S)=false:=dF om;clear hS;go_in;go_wp2;go_ret2;refine⟨rfl,⟨.slice none 0 0,0,-1,λ_=>0,λ_=>0,λ_=>0,[],⟨?_,World.ownsRow_nil _ _ _ _,rfl,λk hk=>absurd hk (Nat.not_lt_zero _),sj,λk hk=>absurd hk (Nat.not_lt_zero _),λk k' hk=>absurd hk (Nat.not_lt_zero _)⟩,kC.zero S _ _,rfl⟩,(Off.refl [] w).alloc _⟩;exact Row.lit _ _ _ (Nat.le_refl _) lC
def ji (U:List Nat) (n:Nat):List Nat:=(List.range n).filter λi=>decide (i∈U)
theorem Fx (U:List Nat) (n:Nat):ji U (n+1)=if n∈U then ji U n++[n] else ji U n:=by
 unfold ji;rw[List.range_succ,List.filter_append]
 by_cases c:n∈U
 ·rw[if_pos c];simp[c]
 ·rw[if_neg c];simp[c]
theorem Ku (U:List Nat) (n:Nat):(ji U n).length≤n:=by
 have:=List.length_filter_le (λi=>decide (i∈U)) (List.range n);unfold ji;simpa using this
theorem Tryz.YW:∃i z,Tryz.prog.info? 3=some i∧i.zero=some z∧i.size=1∧i.bytes=8:=by
 obtain⟨i,hi,hzz⟩:=Option.map_eq_some_iff.1 Tryz.ng;simp only[Prod.mk.injEq] at hzz;exact⟨i,_,hi,hzz.1,hzz.2.1,hzz.2.2⟩
theorem Al (h:yH w f S U bg) (hS:S≤65536):
  Calls Tryz.prog 69 #[.pointer (some ⟨f.h,0,none⟩)] w λe w'=>∃v,e=.returned v∧iG w.heap.size v (ji U bg) w'∧Off [] w w':=by
 obtain⟨sv,us,la,st,af,tm,R,m,o,hn⟩:=h;have El:=o.Oc;have hbg:=o.Uc;have hle:=o.le;have c4:=m.c4;have HV:=jh (dW m);obtain⟨i0,z0,hi0,hz0,h20,h30⟩:=Tryz.YW;obtain⟨w3,hmk,hown3,hgr⟩:=run_make_own (P:=Tryz.prog) w w.heap.size 62 3 i0 z0 1 Cw.ht hi0 hz0 h20 .i64 .i64 us (by rw[h30];omega) (by unfold maxLen;omega) (Nat.le_refl _);have bu:(0:Int)≤us∧(us:Int)≤65536∧(0:Int)≤bg∧(bg:Int)≤65536:=om;have dh:Hid (Off [] w w3):=jh ⟨hgr.os,hgr.tape,hgr.output,hgr.size,λj hj _=>hgr.block j hj sj⟩;have m3:dL w3 f S sv bg us la st af tm:=m.keep λj hj=>dh.out.block j (m.lt j hj) sj;have c3:=m3.c3;have HOW:Hid (iG w.heap.size (.slice (some ⟨w.heap.size,0,none⟩) (0:Nat) us) [] w3):=jh hown3;have HM:=jh m;have HO:=jh o;have HN:=jh hn;have HB:=jh (And.intro hle hS);clear m m3 o hn El hbg hle hown3 hgr hi0 hz0 h20 h30;go_in;go_wp2_with fail;apply mO HV;rintro e w1 ⟨rfl,rfl⟩;go_wp2_with fail;clear c3 c4 hmk HV
 go_loopg [3,17] bg (λM lv iv wr=>∃i:Nat,M+i=bg∧iv=.int .i64 i∧Hid (iG w1.heap.size lv (ji U i) wr)∧Hid (Off [] w1 wr))
 case atStart=>exact⟨0,rfl,rfl,HOW,dh⟩
 case round=>
  clear HOW dh;obtain⟨i,hM,rfl,HL,HF⟩:=hrel
  by_cases hlt:i<bg
  ·have d1:decide ((i:Int)<bg)=true:=dP om;have d2:decide (i<bg)=true:=dP hlt;obtain⟨j,hj⟩:=nE (i+1);have wj:(i:Int)+1=(j:Int):=om;have bi:(0:Int)≤i∧(i:Int)≤65536∧(0:Int)≤j∧(j:Int)≤65536:=om;have mr:dL wr f S sv bg us la st af tm:=HM.out.keep λq hq=>HF.out.block q (HM.out.lt q hq) sj;have HT:=jh (x9 mr HN.out (oC HB.out) (i:=i) om);rw[if_pos hlt] at HT;have HS:=jh (Fx U i);rw[hj] at HS;have HJ:=jh hj;have Gt:=Ku U i;have hsz:=HF.out.size
   rcases(HO.out.mem i).1 hlt with c |c
   ·rw[HO.out.stU i c] at HT;have HC:=jh c;have HLW:=jh (show wr.ownsRow w1.heap.size 3 1 _ (ji U i).length ((bH (ji U i)).map (Value.int .i64)) from HL.out);obtain⟨K,hK⟩:=nE ((ji U i).length);rw[hK] at HLW Gt;have HKK:=jh hK;clear mr hj c hK;go_wp2_with fail;apply mO HT;rintro e w4 ⟨rfl,rfl⟩
    go_wp2_with (at_builtin;refine push Cw rfl _ _ rfl w1.heap.size _ _ _ HLW.out rfl #[.int .i64 i] _ rfl rfl rfl (by simp[Value.oneCell']) om om hsz ?_;intro g cp w5 hown5 hg5 hv5;refine Hid.out ?_)
    have hO5:iG w1.heap.size (.slice (some ⟨g,0,none⟩) (K+1:Nat) cp) (ji U j) w5:=by
     rw[HS.out,if_pos HC.out];unfold iG;rw[List.length_append,HKK.out,jW,List.map_append];exact hown5
    have XB:Off [] w1 w5:=⟨hg5.os.trans HF.out.os,hg5.tape.trans HF.out.tape,hg5.output.trans HF.out.output,Nat.le_trans hsz hg5.size,λq hq _=>(hg5.block q om λe=>by
     have hl:=HL.out.2
     rcases hl with⟨h1,_⟩ |⟨g',cap',cur,h1,hb,_⟩
     ·rw[h1] at e;cases e
     ·rw[h1] at e
      have:g'=q:=by have e2:=e;simp only[Value.ownBlock,Option.some.injEq] at e2;exact e2.symm
      omega).trans (HF.out.block q hq sj)⟩
    have nk:=jh hO5;have HF5:=jh XB;clear hO5 XB hown5 hg5 hv5 HLW hsz Gt;refine jh ?_;go_wp2
    go_roundg (bg-j)
    case measure=>have:=HJ.out;omega
    case rel=>exact⟨j,oC HJ.out,rfl,nk,HF5⟩
   ·rw[HO.out.uj i c] at HT;have hno:i∉U:=λq=>HO.out.dj i q c;have HC:=jh hno;clear mr hj c hno;go_wp2_with fail;apply mO HT;rintro e w4 ⟨rfl,rfl⟩;go_wp2
    go_roundg (bg-j)
    case measure=>have:=HJ.out;omega
    case rel=>exact⟨j,oC HJ.out,rfl,jh (by rw[HS.out,if_neg HC.out];exact HL.out),HF⟩
  ·have d1:decide ((i:Int)<bg)=false:=dF om;have d2:decide (i<bg)=false:=dF hlt;obtain rfl:i=bg:=om;go_wp2;go_ret;exact⟨_,rfl,HL.out,HF.out⟩
end
def tbH (h a:Nat) (iv:Value) (cb N cp:Nat) (i:Nat):Value:=(#[Value.pointer (some ⟨h,0,none⟩),.pointer (some ⟨a,0,none⟩),iv,.slice (some ⟨cb,0,none⟩) (N:Nat) cp]:Array Value).getD i undef
structure iL where
 h:Nat
 ar:iI
 ig:Option Nat
 cb:Nat
 cp:Nat
def iL.bl (f:iL):List Nat:=f.h::f.cb::(f.ig.toList++f.ar.bl)
theorem iL.ak {f:iL} {j:Nat}:j∈f.bl↔j=f.h∨j=f.cb∨f.ig=some j∨j∈f.ar.bl:=by
 unfold iL.bl;simp only[List.mem_cons,List.mem_append,Option.mem_toList]
def jL (l:List Int):List Value:=l.map (Value.int .u64)
structure iX (w:World) (f:iL) (S N:Nat) (iv:Value) (ids:List Int) (cl:Nat→Nat) (U:List Nat):Prop where
 hr:Row w f.h 4 (tbH f.h f.ar.h iv f.cb N f.cp)
 ar:yH w f.ar S U ids.length
 ow:w.ownsRow 0 25 1 iv ids.length (jL ids)
 og:iv.ownBlock=f.ig
 cr:Row w f.cb N (λc=>.int .i64 (cl c:Nat))
 n1:f.h≠f.cb
 n2:f.ig≠some f.h∧f.ig≠some f.cb
 n3:f.h∉f.ar.bl∧f.cb∉f.ar.bl∧∀g,f.ig=some g→g∉f.ar.bl
section
variable {w w':World} {f:iL} {S N:Nat} {iv:Value} {ids:List Int} {cl:Nat→Nat} {U:List Nat}
theorem iX.lt (h:iX w f S N iv ids cl U):∀j∈f.bl,j<w.heap.size:=λj hj=>by
 rcases iL.ak.1 hj with rfl |rfl |hj |hj
 ·exact h.hr.lt
 ·exact h.cr.lt
 ·exact aN h.ow (h.og.trans hj)
 ·exact h.ar.lt j hj
theorem iX.keep (h:iX w f S N iv ids cl U) (e:∀j∈f.bl,w'.heap[j]?=w.heap[j]?):iX w' f S N iv ids cl U:=
 ⟨h.hr.of_block (e _ (iL.ak.2 (.inl rfl))),h.ar.keep λj hj=>e j (iL.ak.2 (.inr (.inr (.inr hj)))),aG h.ow λg hg=>e g (iL.ak.2 (.inr (.inr (.inl (h.og.symm.trans hg))))),h.og,h.cr.of_block (e _ (iL.ak.2 (.inr (.inl rfl)))),h.n1,h.n2,h.n3⟩
theorem iX.c0 (h:iX w f S N iv ids cl U):w.cell? ⟨f.h,0,none⟩=some (.pointer (some ⟨f.h,0,none⟩)):=h.hr.c 0
theorem iX.c1 (h:iX w f S N iv ids cl U):w.cell? ⟨f.h,1,none⟩=some (.pointer (some ⟨f.ar.h,0,none⟩)):=h.hr.c 1
theorem iX.c2 (h:iX w f S N iv ids cl U):w.cell? ⟨f.h,2,none⟩=some iv:=h.hr.c 2
theorem iX.c3 (h:iX w f S N iv ids cl U):w.cell? ⟨f.h,3,none⟩=some (.slice (some ⟨f.cb,0,none⟩) (N:Nat) f.cp):=h.hr.c 3
theorem iX.cc (h:iX w f S N iv ids cl U) {c:Nat} (hc:c<N):w.cell? ⟨f.cb,c,none⟩=some (.int .i64 (cl c:Nat)):=h.cr.cell hc
theorem iX.cf (h:iX w f S N iv ids cl U) (c:Nat):w.frozen? ⟨f.cb,c,none⟩=false:=h.cr.frozen c
theorem iX.sl (h:iX w f S N iv ids cl U) (h0:0<ids.length):∃g cap,iv=.slice (some ⟨g,0,none⟩) ids.length cap∧f.ig=some g:=by
 rcases h.ow.2 with⟨_,e⟩ |⟨g,cap,cur,e,_⟩
 ·omega
 ·exact⟨g,cap,e,by rw[←h.og,e];rfl⟩
theorem IU {l:List Int} {i:Nat} (h:i<l.length):(jL l)[i]?=some (.int .u64 (aJ l i)):=by
 unfold jL aJ;simp[h,List.getD]
theorem iX.ic {g cap:Nat} (h:iX w f S N (.slice (some ⟨g,0,none⟩) ids.length cap) ids cl U) {i:Nat} (hi:i<ids.length):w.cell? ⟨g,i,none⟩=some (.int .u64 (aJ ids i))∧w.frozen? ⟨g,i,none⟩=false:=lG h.ow (IU hi)
theorem iX.Dk {oq:iI} {U':List Nat} (h:iX w f S N iv ids cl U) (a:yH w' oq S U' ids.length) (hh:oq.h=f.ar.h) (b:Bo f.ar.bl oq.bl w w'):iX w' { f with ar:=oq } S N iv ids cl U':=by
 have far:=b.far (C:=[f.h,f.cb]++f.ig.toList) (λj hj=>h.lt j (by
  rcases List.mem_append.1 hj with e |e
  ·simp only[List.mem_cons,List.not_mem_nil,or_false] at e
   rcases e with rfl |rfl
   ·exact iL.ak.2 (.inl rfl)
   ·exact iL.ak.2 (.inr (.inl rfl))
  ·exact iL.ak.2 (.inr (.inr (.inl (Option.mem_toList.1 e)))))) (λj hj=>by
  rcases List.mem_append.1 hj with e |e
  ·simp only[List.mem_cons,List.not_mem_nil,or_false] at e
   rcases e with rfl |rfl
   ·exact h.n3.1
   ·exact h.n3.2.1
  ·exact h.n3.2.2 j (Option.mem_toList.1 e))
 refine⟨?_,a,aG h.ow λg hg=>far.1 g (List.mem_append_right _ (Option.mem_toList.2 (h.og.symm.trans hg))),h.og,h.cr.of_block (far.1 _ sj),h.n1,h.n2,far.2 _ sj,far.2 _ sj,λg hg=>far.2 g (List.mem_append_right _ (Option.mem_toList.2 hg))⟩;have:=h.hr.of_block (far.1 f.h sj);show Row w' f.h 4 (tbH f.h oq.h iv f.cb N f.cp);rw[hh];exact this
theorem iX.Jc (h:iX w f S N iv ids cl U) (c v:Nat):iX (w.setCell ⟨f.cb,c,none⟩ (.int .i64 (v:Nat))) f S N iv ids (pW cl c v) U:=by
 refine⟨Row.setOther h.hr h.n1 _,h.ar.keep λj hj=>aC j λe=>h.n3.2.1 (by have e':j=f.cb:=e;rw[←e'];exact hj),aG h.ow λg hg=>aC g λe=>h.n2.2 (by rw[←h.og,hg];exact congrArg some e),h.og,(h.cr.set c (.int .i64 v)).congr λx _=>?_,h.n1,h.n2,h.n3⟩;unfold pW
 split<;>rfl
theorem iX.Pq {g cap:Nat} (h:iX w f S N (.slice (some ⟨g,0,none⟩) ids.length cap) ids cl U) (i:Nat) (v:Int):iX (w.setCell ⟨g,i,none⟩ (.int .u64 v)) f S N (.slice (some ⟨g,0,none⟩) (ids.set i v).length cap) (ids.set i v) cl U:=by
 have hg:f.ig=some g:=h.og.symm;have hl:(ids.set i v).length=ids.length:=List.length_set ..;refine⟨?_,?_,?_,h.og,h.cr.of_block (aC _ λe=>h.n2.2 (by rw[hg];exact congrArg some e.symm)),h.n1,h.n2,h.n3⟩
 ·rw[hl];exact h.hr.of_block (aC _ λe=>h.n2.1 (by rw[hg];exact congrArg some e.symm))
 ·rw[hl];exact h.ar.keep λj hj=>aC j λe=>h.n3.2.2 g hg (by have e':j=g:=e;rw[←e'];exact hj)
 ·rw[hl];have:=AZ h.ow (i:=i) (.int .u64 v)
  rwa [show(jL ids).set i (.int .u64 v)=jL (ids.set i v) from by unfold jL;rw[List.map_set]] at this
end
def Ap (w:World) (f:iL) (S N:Nat) (hm:Int→Nat) (ids:List Int) (U:List Nat):Prop:=
 ∃iv cl,iX w f S N iv ids cl U∧mM N S hm ids cl U
section
variable {w w':World} {f:iL} {S N:Nat} {hm:Int→Nat} {ids:List Int} {U:List Nat}
theorem Ap.lt (h:Ap w f S N hm ids U):∀j∈f.bl,j<w.heap.size:=by
 obtain⟨iv,cl,h1,_⟩:=h;exact h1.lt
theorem Ap.keep (h:Ap w f S N hm ids U) (e:∀j∈f.bl,w'.heap[j]?=w.heap[j]?):Ap w' f S N hm ids U:=by
 obtain⟨iv,cl,h1,h2⟩:=h;exact⟨iv,cl,h1.keep e,h2⟩
end
theorem Tryz.YR:(Tryz.prog.info? 197).isSome=true:=by kernel_rfl
theorem Us (a:Addr) (w:World):(binOp .eql 133 (.pointer (some a)) (.pointer (some a))).run Tryz.prog w=.ok (.bool true) w:=by
 obtain⟨j,hj⟩:=Option.isSome_iff_exists.1 Tryz.YR;exact run_eql_ptr_same w a Tryz.underlying133 hj
section
variable {w:World} {f:iL} {S N:Nat} {iv:Value} {ids:List Int} {cl:Nat→Nat} {U:List Nat}
theorem iN (h:iX w f S N iv ids cl U):
  Calls Tryz.prog 104 #[.pointer (some ⟨f.h,0,none⟩)] w λe w'=>e=.returned (.bool true)∧w'=w:=by
 have c0:=h.c0;have eq:=Us ⟨f.h,0,none⟩;clear h;go_in;go_wp2;go_ret;exact⟨rfl,rfl⟩
def Ll (x:Int):Int:=bits BinOp.xor IntKind.u64 (IntKind.u64.wrap (bits BinOp.xor IntKind.u64 (IntKind.u64.wrap (bits BinOp.xor IntKind.u64 x (x / 8589934592)*18397679294719823053)) (IntKind.u64.wrap (bits BinOp.xor IntKind.u64 x (x / 8589934592)*18397679294719823053) / 8589934592)*14181476777654086739)) (IntKind.u64.wrap (bits BinOp.xor IntKind.u64 (IntKind.u64.wrap (bits BinOp.xor IntKind.u64 x (x / 8589934592)*18397679294719823053)) (IntKind.u64.wrap (bits BinOp.xor IntKind.u64 x (x / 8589934592)*18397679294719823053) / 8589934592)*14181476777654086739) / 8589934592)
def bM (N:Nat) (x:Int):Nat:=(Ll x%(N:Int)).toNat
theorem fV {N:Nat} (h:1≤N) (x:Int):bM N x<N:=by
 have:=Int.emod_lt_of_pos (Ll x) (b:=(N:Int)) om;have:=Int.emod_nonneg (Ll x) (b:=(N:Int)) om;unfold bM;omega
theorem Rf {N:Nat} (h:Pw N) (x:Int):wrap64 (bits BinOp.and IntKind.u64 (Ll x) (IntKind.u64.wrap ((N:Int)-1)))=(bM N x:Nat):=by
 have hp:=h.pos;rw[show IntKind.u64.wrap ((N:Int)-1)=(N:Int)-1 from IntWalk.u64_in _ om,h.u64];have a:=Int.emod_lt_of_pos (Ll x) (b:=(N:Int)) om;have b:=Int.emod_nonneg (Ll x) (b:=(N:Int)) om;unfold bM wrap64;omega
theorem uf (h:iX w f S N iv ids cl U) (hN:Pw N) (x:Int):
  Calls Tryz.prog 140 #[.pointer (some ⟨f.h,0,none⟩),.int .u64 x] w λe w'=>e=.returned (.int .i64 (bM N x:Nat))∧w'=w:=by
 have c3:=h.c3;have HV:=jh (Rf hN x);have bN:(0:Int)≤N∧(N:Int)≤131072:=oC hN.pos;clear h hN;go_in;go_wp2;go_ret;exact⟨congrArg (λz=>Ending.returned (.int .i64 z)) HV.out,rfl⟩
end
end Go.Proofs.YtpaeogglppampaaGreatDoor
