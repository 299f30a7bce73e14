/- Lemmas of the proof. Conditions: as each one states. -/
import Derived.Test.YtpaeogglppampaaGreatDoorQe
import Derived.Test.YtpaeogglppampaaGreatDoorQo
import Derived.Test.YtpaeogglppampaaGreatDoorQp
set_option maxRecDepth 100000
set_option maxHeartbeats 16000000
namespace Go.Proofs.YtpaeogglppampaaGreatDoor
open Go.RowKit
def bW (E:List Ed) (f:List Nat) (i:Nat):Nat→Nat:=bR E (f.take i)
def mU (E:List Ed) (f:List Nat) (i:Nat):Nat:=bW E f i (gJ E (f.getD i 0)).1
def mV (E:List Ed) (f:List Nat) (i:Nat):Nat:=bW E f i (gJ E (f.getD i 0)).2
def mA (E:List Ed) (f:List Nat) (i:Nat):Nat:=min (mU E f i) (mV E f i)
def mB (E:List Ed) (f:List Nat) (i:Nat):Nat:=max (mU E f i) (mV E f i)
structure Fo (n:Nat) (E:List Ed) (f:List Nat):Prop where
 ne:∀i<f.length,mU E f i≠mV E f i
 lu:∀i<f.length,(gJ E (f.getD i 0)).1<n
 lv:∀i<f.length,(gJ E (f.getD i 0)).2<n
def nd (E:List Ed) (f:List Nat) (n:Nat):Nat→Nat→Nat
 |0,a=>a
 |i+1,a=>if a=mA E f i then n+i else nd E f n i a
def qM (E:List Ed) (f:List Nat) (n x:Nat):Nat:=if x<n then x else mA E f (x-n)
def pk (E:List Ed) (f:List Nat) (n:Nat):Nat→Nat→Option Nat
 |0,_=>none
 |i+1,x=>if x=nd E f n i (mB E f i)∨x=nd E f n i (mA E f i) then some i else pk E f n i x
def nJ (E:List Ed) (f:List Nat) (n x:Nat):Nat:=if x<n then 1 else dU n (bW E f (x-n+1)) (mA E f (x-n))
section
variable {n:Nat} {E:List Ed} {f:List Nat} {i j k x y a b:Nat}
theorem qO (E:List Ed) (f:List Nat) (i:Nat):gP (bW E f i):=vZ E _
theorem nU (E:List Ed) (f:List Nat):bW E f 0=id:=by unfold bW;rw[List.take_zero];rfl
theorem gZ (hi:i<f.length) (x:Nat):bW E f (i+1) x=if bW E f i x=mB E f i then mA E f i else bW E f i x:=by
 have h:f.take (i+1)=f.take i++[f.getD i 0]:=by
  rw[List.take_succ_eq_append_getElem hi];simp[List.getD,hi]
 have h2:bW E f (i+1)=aW (bW E f i) (gJ E (f.getD i 0)).1 (gJ E (f.getD i 0)).2:=by
  unfold bW;rw[h,oU]
 rw[h2];rfl
theorem uF (hi:i<f.length):bW E f (i+1)=aW (bW E f i) (gJ E (f.getD i 0)).1 (gJ E (f.getD i 0)).2:=by
 funext x;rw[gZ hi];rfl
theorem kT (E:List Ed) (f:List Nat) (i x:Nat):bW E f i x≤x:=(qO E f i).le x
theorem jq (E:List Ed) (f:List Nat) (i x:Nat):bW E f i (bW E f i x)=bW E f i x:=(qO E f i).idem x
theorem mq (h:f.length≤i):bW E f i=bW E f f.length:=by
 unfold bW;rw[List.take_of_length_le h,List.take_of_length_le (Nat.le_refl _)]
theorem wV (E:List Ed) (f:List Nat) (i:Nat):bW E f i (mA E f i)=mA E f i:=by
 unfold mA mU mV
 rcases Nat.le_total (bW E f i (gJ E (f.getD i 0)).1) (bW E f i (gJ E (f.getD i 0)).2) with h |h
 ·rw[Nat.min_eq_left h];exact jq _ _ _ _
 ·rw[Nat.min_eq_right h];exact jq _ _ _ _
theorem Bj (E:List Ed) (f:List Nat) (i:Nat):bW E f i (mB E f i)=mB E f i:=by
 unfold mB mU mV
 rcases Nat.le_total (bW E f i (gJ E (f.getD i 0)).1) (bW E f i (gJ E (f.getD i 0)).2) with h |h
 ·rw[Nat.max_eq_right h];exact jq _ _ _ _
 ·rw[Nat.max_eq_left h];exact jq _ _ _ _
theorem Fo.mlt (F:Fo n E f) (hi:i<f.length):mA E f i<mB E f i:=by
 have:=F.ne i hi;unfold mA mB;omega
theorem Fo.wU (F:Fo n E f) (hi:i<f.length):mB E f i<n:=by
 have h1:=kT E f i (gJ E (f.getD i 0)).1;have h2:=kT E f i (gJ E (f.getD i 0)).2;have h3:=F.lu i hi;have h4:=F.lv i hi;unfold mB mU mV;omega
theorem Fo.sF (F:Fo n E f) (hi:i<f.length):mA E f i<n:=Nat.lt_trans (F.mlt hi) (F.wU hi)
theorem Ea (F:Fo n E f) (h:i≤j) (x:Nat):bW E f j x≤bW E f i x:=by
 induction j with
 |zero=>rw[Nat.le_zero.1 h];exact Nat.le_refl _
 |succ j ih=>
  by_cases e:i=j+1
  ·rw[e];exact Nat.le_refl _
  ·have:=ih om
   by_cases hj:j<f.length
   ·rw[gZ hj];have:=F.mlt hj
    split<;>omega
   ·rw[mq (i:=j+1) om,←mq (i:=j) om];exact this
theorem QN (h:i≤j) (hx:bW E f i x=bW E f i y):bW E f j x=bW E f j y:=by
 induction j with
 |zero=>
  obtain rfl:i=0:=om;exact hx
 |succ j ih=>
  by_cases e:i=j+1
  ·rw[←e];exact hx
  ·have:=ih om
   by_cases hj:j<f.length
   ·rw[gZ hj,gZ hj,this]
   ·rw[mq (i:=j+1) om,←mq (i:=j) om];exact this
theorem Ju (h:i≤j) (x:Nat):bW E f j (bW E f i x)=bW E f j x:=QN h (jq _ _ _ _)
theorem QU (F:Fo n E f) (h:i≤j) (hx:bW E f j x=x):bW E f i x=x:=by
 have h1:=Ea F h x;have h2:=kT E f i x;omega
theorem Bh (hi:i<f.length):bW E f (i+1) (mB E f i)=mA E f i:=by rw[gZ hi,Bj,if_pos rfl]
theorem Jo (F:Fo n E f) (hi:i<f.length):bW E f (i+1) (mA E f i)=mA E f i:=by
 have:=F.mlt hi;rw[gZ hi,wV,if_neg om]
theorem lH (ha:a<n):nd E f n i a<n+i:=by
 induction i with
 |zero=>exact ha
 |succ i ih=>
  rw[nd];split
  ·omega
  ·omega
theorem acw (h:i<j):n+i≤nd E f n j (mA E f i):=by
 induction j with
 |zero=>omega
 |succ j ih=>
  rw[nd];split
  ·omega
  ·rename_i hc
   by_cases e:i=j
   ·subst e;exact absurd rfl hc
   ·exact ih om
theorem Gi (h:x<n):qM E f n x=x:=if_pos h
theorem Gj (E:List Ed) (f:List Nat) (n i:Nat):qM E f n (n+i)=mA E f i:=by
 unfold qM;rw[if_neg om,Nat.add_sub_cancel_left]
theorem qL (ha:a<n):qM E f n (nd E f n i a)=a:=by
 induction i with
 |zero=>exact Gi ha
 |succ i ih=>
  rw[nd];split
  ·rename_i h;rw[Gj,h]
  ·exact ih
theorem Bc (ha:a<n) (hb:b<n) (h:nd E f n i a=nd E f n j b):a=b:=by
 have:=congrArg (qM E f n) h
 rwa [qL ha,qL hb] at this
theorem Gb (F:Fo n E f) (hij:i<j) (hj:j≤f.length) (ha:a=mB E f i∨a=mA E f i) (hb:bW E f j b=b) (hbn:b<n):nd E f n j b≠nd E f n i a:=by
 intro h;have hi:i<f.length:=om
 have han:a<n:=by rcases ha with rfl |rfl;exact F.wU hi;exact F.sF hi
 have e:=Bc hbn han h;subst e
 rcases ha with rfl |rfl
 ·have h1:=Ea F (show i+1≤j from hij) (mB E f i);rw[Bh hi] at h1;have:=F.mlt hi;omega
 ·have h1:=acw (E:=E) (f:=f) (n:=n) hij;have h2:=lH (E:=E) (f:=f) (i:=i) han;omega
theorem uX (h:pk E f n k x=some i):i<k:=by
 induction k with
 |zero=>cases h
 |succ k ih=>
  rw[pk] at h;split at h
  ·cases h;omega
  ·have:=ih h;omega
theorem vV (h:pk E f n k x=some i):x=nd E f n i (mB E f i)∨x=nd E f n i (mA E f i):=by
 induction k with
 |zero=>cases h
 |succ k ih=>
  rw[pk] at h;split at h
  ·rename_i hc;cases h;exact hc
  ·exact ih h
theorem wN (F:Fo n E f) (hk:k≤f.length) (h:pk E f n k x=some i):x<n+i:=by
 have hi:=uX h
 rcases vV h with rfl |rfl
 ·exact lH (F.wU om)
 ·exact lH (F.sF om)
theorem PL (F:Fo n E f) (hk:k≤f.length) (hi:i<k) (h:x=nd E f n i (mB E f i)∨x=nd E f n i (mA E f i)):pk E f n k x=some i:=by
 induction k with
 |zero=>omega
 |succ k ih=>
  rw[pk]
  by_cases e:i=k
  ·subst e;rw[if_pos h]
  ·have hl:=F.mlt (show k<f.length by omega)
   have hn:∀a,a=mB E f i∨a=mA E f i→x=nd E f n i a→¬(x=nd E f n k (mB E f k)∨x=nd E f n k (mA E f k)):=λa ha hx hc=>by
    rcases hc with hc |hc
    ·exact Gb F (show i<k by omega) om ha (Bj E f k) (F.wU om) (hc.symm.trans hx)
    ·exact Gb F (show i<k by omega) om ha (wV E f k) (F.sF om) (hc.symm.trans hx)
   rw[if_neg (by rcases h with h |h;exact hn _ (.inl rfl) h;exact hn _ (.inr rfl) h)];exact ih om om
theorem YB (F:Fo n E f) (hk:k≤f.length) (h:pk E f n j x=some i) (hi:i<k):pk E f n k x=some i:=PL F hk hi (vV h)
theorem U3 (F:Fo n E f) (hk:k≤f.length) (hx:x<n+k) (h:pk E f n k x=none):bW E f k (qM E f n x)=qM E f n x∧nd E f n k (qM E f n x)=x∧qM E f n x<n:=by
 induction k with
 |zero=>rw[Gi om];exact⟨by rw[nU];rfl,rfl,om⟩
 |succ k ih=>
  have Zi:k<f.length:=om
  by_cases e:x=n+k
  ·subst e;rw[Gj];exact⟨Jo F Zi,by rw[nd,if_pos rfl],F.sF Zi⟩
  ·rw[pk] at h
   split at h
   ·cases h
   ·rename_i hc;obtain⟨h1,h2,h3⟩:=ih om om h;have c1:qM E f n x≠mB E f k:=λe=>hc (.inl (by rw[←e,h2]));have c2:qM E f n x≠mA E f k:=λe=>hc (.inr (by rw[←e,h2]));exact⟨by rw[gZ Zi,h1,if_neg c1],by rw[nd,if_neg c2,h2],h3⟩
theorem alive (F:Fo n E f) (hk:k≤f.length) (hx:x<n+k) (h:∀i,pk E f n f.length x=some i→k≤i):bW E f k (qM E f n x)=qM E f n x∧nd E f n k (qM E f n x)=x∧qM E f n x<n:=by
 refine U3 F hk hx ?_
 cases hp:pk E f n k x with
 |none=>rfl
 |some i=>
  have h1:=uX hp;have h2:=h i (YB F (Nat.le_refl _) hp om);omega
theorem wI (h:x<n):nJ E f n x=1:=if_pos h
theorem Oy (E:List Ed) (f:List Nat) (n i:Nat):nJ E f n (n+i)=dU n (bW E f (i+1)) (mA E f i):=by
 unfold nJ;rw[if_neg om,Nat.add_sub_cancel_left]
theorem Sr (h:a<n):dU n id a=1:=by
 have key:∀n,((List.range n).filter λj=>decide (id j=id a)).length=if a<n then 1 else 0:=by
  intro n
  induction n with
  |zero=>rfl
  |succ n ih=>
   rw[List.range_succ,List.filter_append,List.length_append,ih]
   by_cases e:n=a
   ·subst e;simp
   ·have e2:([n].filter λj=>decide (id j=id a)).length=0:=by simp[e]
    rw[e2]
    by_cases c:a<n
    ·rw[if_pos c,if_pos om]
    ·rw[if_neg c,if_neg om]
 unfold dU;rw[key,if_pos h]
theorem Fz (F:Fo n E f) (hi:i≤f.length) (ha:a<n) (hl:bW E f i a=a):nJ E f n (nd E f n i a)=dU n (bW E f i) a:=by
 induction i with
 |zero=>rw[nU,Sr ha];exact wI ha
 |succ i ih=>
  have hif:i<f.length:=om;rw[nd]
  by_cases e:a=mA E f i
  ·rw[if_pos e,Oy,e]
  ·rw[if_neg e];have h1:bW E f i a=a:=QU F (Nat.le_succ i) hl
   have h2:a≠mB E f i:=λc=>by rw[c,Bh hif] at hl;exact e (by rw[c,hl])
   rw[ih om h1,uF hif];refine(xU (qO E f i) (x:=(gJ E (f.getD i 0)).1) (y:=(gJ E (f.getD i 0)).2) ?_ ?_).symm
   ·intro c;rw[h1] at c;have c:a=mU E f i:=c;unfold mA mB at*;omega
   ·intro c;rw[h1] at c;have c:a=mV E f i:=c;unfold mA mB at*;omega
theorem qU {lab:Nat→Nat} (h:lab x=lab y):dU n lab x=dU n lab y:=by unfold dU;rw[h]
theorem IY (F:Fo n E f) (hi:i<f.length):nJ E f n (n+i)=nJ E f n (nd E f n i (mA E f i))+nJ E f n (nd E f n i (mB E f i)):=by
 rw[Oy,Fz F om (F.sF hi) (wV E f i),Fz F om (F.wU hi) (Bj E f i),uF hi];have hne:=F.ne i hi;have key:=Ah (n:=n) (qO E f i) (x:=(gJ E (f.getD i 0)).1) (y:=(gJ E (f.getD i 0)).2) hne (mA E f i)
 have hA:mA E f i=mU E f i∨mA E f i=mV E f i:=by unfold mA;omega
 have h1:dU n (bW E f i) (gJ E (f.getD i 0)).1=dU n (bW E f i) (mU E f i):=qU (jq _ _ _ _).symm;have h2:dU n (bW E f i) (gJ E (f.getD i 0)).2=dU n (bW E f i) (mV E f i):=qU (jq _ _ _ _).symm;rw[key (by rw[wV];exact hA),h1,h2]
 rcases Nat.le_total (mU E f i) (mV E f i) with h |h
 ·rw[show mA E f i=mU E f i from Nat.min_eq_left h,show mB E f i=mV E f i from Nat.max_eq_right h]
 ·rw[show mA E f i=mV E f i from Nat.min_eq_right h,show mB E f i=mU E f i from Nat.max_eq_left h,Nat.add_comm]
theorem AJ (hn:0<n):nJ E f n x≤n:=by
 unfold nJ;split
 ·exact hn
 ·exact BL _ _ _
theorem Ye (F:Fo n E f) (hu:a<n) (hj:j≤f.length) (h:pk E f n f.length (nd E f n j (bW E f j a))=some i):n+i=nd E f n (i+1) (bW E f (i+1) a):=by
 have hif:=uX h;have hla:bW E f j a<n:=Nat.lt_of_le_of_lt (kT _ _ _ _) hu
 have key:∀b,(b=mB E f i∨b=mA E f i)→b<n→bW E f i b=b→nd E f n j (bW E f j a)=nd E f n i b→n+i=nd E f n (i+1) (bW E f (i+1) a):=λb hb hbn hbl e=>by
  have e2:=Bc hla hbn e
  by_cases hji:j≤i
  ·have h1:bW E f i a=b:=by rw[←Ju hji,e2];exact hbl
   have h2:bW E f (i+1) a=mA E f i:=by
    rw[gZ hif,h1]
    rcases hb with rfl |rfl
    ·rw[if_pos rfl]
    ·split<;>rfl
   rw[h2,nd,if_pos rfl]
  ·exact absurd e (Gb F om om hb (jq _ _ _ _) hla)
 rcases vV h with e |e
 ·exact key _ (.inl rfl) (F.wU hif) (Bj _ _ _) e
 ·exact key _ (.inr rfl) (F.sF hif) (wV _ _ _) e
theorem IG (F:Fo n E f) (hk:k≤f.length) (hu:a<n) (hj:j≤k) (h:∀i,pk E f n f.length (nd E f n j (bW E f j a))=some i→k≤i):nd E f n j (bW E f j a)=nd E f n k (bW E f k a):=by
 have hla:bW E f j a<n:=Nat.lt_of_le_of_lt (kT _ _ _ _) hu;have hx:nd E f n j (bW E f j a)<n+k:=oC (lH (E:=E) (f:=f) (i:=j) hla);obtain⟨g1,g2,_⟩:=alive F hk hx h;rw[qL hla] at g1 g2;rw[←g2]
 congr 1
 rw[←g1,Ju hj]
end
section
variable {E:List Ed} {S T:Nat→Prop} {o:List Nat} {a b i k n:Nat}
theorem Sw (hs:o.Pairwise (q9 E)):∀k∈o,CI E (λl=>l∈aH E o∧¬q9 E k l) (gJ E k).1 (gJ E k).2:=by
 induction o using oM with
 |h0=>intro k hk;cases hk
 |h1 o i ih=>
  intro k hk;have hs1:=List.pairwise_append.1 hs
  have hsub:∀l∈aH E o,l∈aH E (o++[i]):=λl hl=>by
   rw[j6];split
   ·exact List.mem_append_left _ hl
   ·exact hl
  rcases List.mem_append.1 hk with hk |hk
  ·exact(ih hs1.1 k hk).mono λl hl=>⟨hsub l hl.1,hl.2⟩
  ·obtain rfl:k=i:=by simpa using hk
   by_cases hc:EU E (bR E o) k=true
   ·exact aae ⟨by rw[j6,if_pos hc];simp,λc=>uz c c⟩
   ·have hc:bR E o (gJ E k).1=bR E o (gJ E k).2:=by simpa [EU] using hc
    rw[←Eb] at hc;exact(aaf.2 hc).mono λl hl=>⟨hsub l hl,λc=>uz c (hs1.2.2 l ((kK E o).mem hl) k sj)⟩
theorem Sy (hs:o.Pairwise (q9 E)) (hd:∀k l,S k→q9 E l k→S l):CI E (λk=>k∈aH E o∧S k) a b↔CI E (λk=>k∈o∧S k) a b:=by
 constructor
 ·exact λh=>h.mono λk hk=>⟨(kK E o).mem hk.1,hk.2⟩
 ·refine λh=>Wv (λk hk=>(Sw hs k hk.1).mono λl hl=>⟨hl.1,?_⟩) h
  by_cases e:l=k
  ·rw[e];exact hk.2
  ·exact hd k l hk.2 ((uy e).resolve_right hl.2)
theorem MG {S:Nat→Bool} (ho:bO E o) (hd:∀k l,S k=true→q9 E l k→S l=true):bR E ((List.range E.length).filter S)=bR E ((aH E o).filter S):=by
 have h1:bR E ((List.range E.length).filter S)=bR E (o.filter S):=QV λi=>by
  rw[List.mem_filter,List.mem_filter,List.mem_range,ho.mem]
 rw[h1];unfold bR;refine zO λa b=>?_;rw[←Sz,←Sz];have hd:=Sy (S:=λi=>S i=true) (a:=a) (b:=b) ho.sorted hd;exact⟨λh=>(hd.2 (h.mono λi hi=>List.mem_filter.1 hi)).mono λi hi=>List.mem_filter.2 hi,λh=>(hd.1 (h.mono λi hi=>List.mem_filter.1 hi)).mono λi hi=>List.mem_filter.2 hi⟩
end
theorem Rw {l l':List Nat} {i d:Nat} (h:i<l.length):(l++l').getD i d=l.getD i d:=by
 simp[List.getD,List.getElem?_append_left h]
theorem Rv {l:List Nat} {x d:Nat}:(l++[x]).getD l.length d=x:=by simp[List.getD]
theorem Wd (E:List Ed) (o:List Nat):∀i<(aH E o).length,mU E (aH E o) i≠mV E (aH E o) i:=by
 induction o using oM with
 |h0=>intro i hi;rw[V9] at hi;simp at hi
 |h1 o x ih=>
  intro i hi;rw[j6] at hi⊢
  split at hi
  ·rename_i hc;rw[if_pos hc]
   have ht:∀j≤(aH E o).length,(aH E o++[x]).take j=(aH E o).take j:=λj hj=>by rw[List.take_append_of_le_length hj]
   by_cases e:i<(aH E o).length
   ·have:=ih i e;unfold mU mV bW at this⊢;rw[ht i om,Rw e];exact this
   ·have e:i=(aH E o).length:=by simp at hi;omega
    subst e;unfold mU mV bW;rw[ht _ (Nat.le_refl _),Rv,List.take_length,Eb];simpa [EU] using hc
  ·rename_i hc;rw[if_neg hc];exact ih i hi
theorem GN {n:Nat} {E:List Ed} {o:List Nat} (G:tZ n E) (ho:bO E o):Fo n E (aH E o):=by
 have hm:∀i<(aH E o).length,(gJ E ((aH E o).getD i 0)).1<n∧(gJ E ((aH E o).getD i 0)).2<n:=λi hi=>by
  have h1:(aH E o).getD i 0∈aH E o:=by
   rw[List.getD_eq_getElem?_getD,List.getElem?_eq_getElem hi];exact List.getElem_mem _
  obtain⟨u,v,hu,hv,h2,h3,_⟩:=G.Gc (ho.mem.1 ((kK E o).mem h1));unfold gJ;rw[hu,hv];simp;omega
 exact⟨Wd E o,λi hi=>(hm i hi).1,λi hi=>(hm i hi).2⟩
theorem uO {p:Nat→Bool}:∀{l:List Nat},l.Pairwise (λx y=>p y=true→p x=true)→l.filter p=l.take (l.filter p).length∧∀i<l.length,(p (l.getD i 0)=true↔i<(l.filter p).length)
 |[],_=>⟨rfl,λi hi=>by simp at hi⟩
 |x::t,h=>by
  have⟨h1,h2⟩:=List.pairwise_cons.1 h;obtain⟨i1,i2⟩:=uO h2
  by_cases c:p x=true
  ·have e:(x::t).filter p=x::t.filter p:=by simp[c]
   rw[e];refine⟨by rw[List.length_cons,List.take_succ_cons,←i1],λi hi=>?_⟩
   cases i with
   |zero=>simp[c]
   |succ i=>
    have:=i2 i (by simp at hi;omega);simp only[List.getD_cons_succ,List.length_cons,Nat.add_lt_add_iff_right];exact this
  ·have hn:t.filter p=[]:=List.filter_eq_nil_iff.2 λy hy hc=>c (h1 y hy hc)
   have e:(x::t).filter p=[]:=by simp[c,hn]
   rw[e];refine⟨rfl,λi hi=>?_⟩;simp only[List.length_nil,Nat.not_lt_zero,iff_false]
   cases i with
   |zero=>simpa using c
   |succ i=>
    intro hc
    have hi:i<t.length:=by simp at hi;omega
    have:=(i2 i hi).1 (by simpa using hc);rw[hn] at this;simp at this
def YO (f:List Nat) (S:Nat→Bool):Nat:=(f.filter S).length
theorem Br (f:List Nat) (S:Nat→Bool):YO f S≤f.length:=List.length_filter_le _ _
section
variable {E:List Ed} {o:List Nat} {S:Nat→Bool}
theorem Ez (ho:bO E o) (hd:∀k l,S k=true→q9 E l k→S l=true):(aH E o).Pairwise (λx y=>S y=true→S x=true):=
 (ho.sorted.sublist (kK E o)).imp fun{a b} hab hb=>hd b a hb hab
theorem Vv (ho:bO E o) (hd:∀k l,S k=true→q9 E l k→S l=true) {i:Nat} (hi:i<(aH E o).length):S ((aH E o).getD i 0)=true↔i<YO (aH E o) S:=(uO (Ez ho hd)).2 i hi
theorem Vr (ho:bO E o) (hd:∀k l,S k=true→q9 E l k→S l=true):bW E (aH E o) (YO (aH E o) S)=bR E ((List.range E.length).filter S):=by
 rw[MG ho hd,(uO (Ez ho hd)).1];rfl
end
theorem DZ {E:List Ed} {θ:Int}:∀k l,NI E θ k=true→q9 E l k→NI E θ l=true:=λk l hk hl=>by
 unfold NI at*;simp only[decide_eq_true_eq] at*;unfold q9 at hl;omega
def ltW (E:List Ed) (θ:Int) (i:Nat):Bool:=decide ((aR E i).w<θ)
theorem JW {n:Nat} {E:List Ed} {f:List Nat} (F:Fo n E f):∀{i:Nat},i≤f.length→iV n (bW E f i)+i=n
 |0,_=>by rw[nU,JX];rfl
 |i+1,h=>by
  have ih:=JW F (show i≤f.length by omega);have hi:i<f.length:=om;have:=uQ (n:=n) (qO E f i) (F.lu i hi) (F.lv i hi) (F.ne i hi);rw[uF hi];omega
def hgt (E:List Ed) (f:List Nat) (n x:Nat):Int:=if x<n then 0 else(aR E (f.getD (x-n) 0)).w
theorem GH (E:List Ed) (f:List Nat) (n i:Nat):hgt E f n (n+i)=(aR E (f.getD i 0)).w:=by
 unfold hgt;rw[if_neg om,Nat.add_sub_cancel_left]
theorem Ry {E:List Ed} {o:List Nat} (ho:bO E o) {i j:Nat} (hij:i<j) (hj:j<(aH E o).length):(aR E ((aH E o).getD i 0)).w≤(aR E ((aH E o).getD j 0)).w:=by
 have h:=ho.sorted.sublist (kK E o);have:=List.pairwise_iff_getElem.1 h i j om hj hij;rw[List.getD_eq_getElem?_getD,List.getElem?_eq_getElem (show i<(aH E o).length by omega),List.getD_eq_getElem?_getD,List.getElem?_eq_getElem hj];simp only[Option.getD_some];unfold q9 at this;omega
theorem GD {E:List Ed} {o:List Nat} {n:Nat} (ho:bO E o) {i:Nat} (hi:i<(aH E o).length) (θ:Int):hgt E (aH E o) n (n+i)≤θ↔i<YO (aH E o) (NI E θ):=by
 rw[GH,←Vv ho DZ hi];unfold NI;simp
section
variable {w:World} {f:iI} {S bg:Nat} {U:List Nat}
theorem Uv (st:Nat→Nat) (af tm:Nat→Int) (k j:Nat):(Fg st af tm k j).oneCell'=true:=by
 unfold Fg slF;split<;>rfl
theorem Tryz.OZ:(Tryz.prog.info? 225).map (·.size)=some 192:=by kernel_rfl
theorem dL.slv {sv:Value} {us:Nat} {la:Int} {st:Nat→Nat} {af tm:Nat→Int} (h:dL w f S sv bg us la st af tm):∃a cap,sv=.slice a f.nb cap:=by
 rcases h.ow.2 with⟨e,e0⟩ |⟨g,cap,cur,e,_⟩
 ·exact⟨none,0,by rw[e,e0]⟩
 ·exact⟨some ⟨g,0,none⟩,cap,e⟩
theorem Ao (h:yH w f S U bg) (hS:S≤65536):
  Calls Tryz.prog 84 #[.pointer (some ⟨f.h,0,none⟩)] w λe w'=>∃f',e=.returned (.pointer (some ⟨f'.h,0,none⟩))∧yH w' f' S U bg∧Bo [] f'.bl w w':=by
 obtain⟨sv,us,la,st,af,tm,R,m,o,hn⟩:=h;have hle:=o.le;obtain⟨a,cap,rfl⟩:=m.slv;obtain⟨nb,hnb⟩:=nE f.nb;obtain⟨W0,hW0⟩:∃W,(w.alloc (.cells #[.pointer (some ⟨w.heap.size,0,none⟩),.slice none 0 0,.int .i64 S,.int .i64 bg,.int .i64 us,.int .i64 la] 190)).drew=W:=⟨_,rfl⟩
 have o0:Off [] w W0:=by rw[←hW0];exact((Off.refl _ _).alloc _).drew
 have m0:=m.keep (w':=W0) λj hj=>o0.block j (m.lt j hj) sj
 have r0:Row W0 w.heap.size 6 (arH w.heap.size (.slice none 0 0) S bg us la):=by
  rw[←hW0];exact Row.lit _ _ _ (Nat.le_refl _) lC
 have c2:=m.c2;have c3:=m.c3;have c4:=m.c4;have c5:=m.c5;have d1:=m0.c1;rw[←hW0] at d1;rw[hnb] at d1;have HV:=jh (dW m);have I0:dL W0 ⟨w.heap.size,none,0,λ_=>0⟩ S (.slice none 0 0) bg us la st af tm:=⟨r0,World.ownsRow_nil _ _ _ _,rfl,λk hk=>absurd hk (Nat.not_lt_zero _),sj,λk hk=>absurd hk (Nat.not_lt_zero _),λk k' hk=>absurd hk (Nat.not_lt_zero _)⟩;have M:=jh m;have M0:=jh m0;have O:=jh o;have HN:=jh hn;have HB:=jh (And.intro hle hS);have O0:=jh o0;have HI0:=jh I0;have HW0:=jh hW0;have NS:=jh hnb;clear m m0 o hn hle o0 r0 I0 hW0 hnb hS;go_in;go_wp2_with fail;apply mO HV;rintro e w1 ⟨rfl,rfl⟩;go_wp2
 go_still_tail 17,(by kernel_rfl)
 go_wp2_with fail;rw[HW0.out];clear c2 c3 c4 c5 d1 HV
 have B0:Hid (Bo [] (iI.bl ⟨w1.heap.size,none,0,λ_=>0⟩) w1 W0):=jh ⟨O0.out,λj hj=>by
  rcases iI.ak.1 hj with e |e |⟨k,hk,_⟩
  ·exact .inr (Nat.le_of_eq e.symm)
  ·cases e
  ·cases hk⟩
 have bnb:nb≤1024:=oF HN.out HB.out NS.out;clear M0 HW0 O0
 go_loopg [37] nb (λQ iv wr=>∃(i:Nat) (fi:iI) (svi:Value),Q+i=nb∧iv=.int .i64 i∧Hid (fi.nb=i∧fi.h=w1.heap.size)∧Hid (dL wr fi S svi bg us la st af tm)∧Hid (Bo [] fi.bl w1 wr))
 case atStart=>exact⟨0,_,_,rfl,rfl,jh ⟨rfl,rfl⟩,HI0,B0⟩
 case round=>
  clear HI0 B0;obtain⟨i,fi,svi,hQ,rfl,HF,HA,Ny⟩:=hrel
  by_cases hlt:i<nb
  ·have d1:decide ((i:Int)<nb)=true:=dP om;have d2:decide (i<nb)=true:=dP hlt;obtain⟨j,hj⟩:=nE (i+1);have wj:(i:Int)+1=(j:Int):=om;have bi:(0:Int)≤i∧(i:Int)<nb∧(nb:Int)≤1024∧(0:Int)≤j∧(j:Int)≤1024:=om;have mr:=M.out.keep (w':=wr) λq hq=>Ny.out.off.block q (M.out.lt q hq) sj
   have hif:i<f.nb:=by rw[NS.out];exact hlt
   obtain⟨g,cap',e,_⟩:=mr.sl (Nat.lt_of_le_of_lt (Nat.zero_le _) hif)
   obtain⟨rfl,rfl⟩:a=some ⟨g,0,none⟩∧cap=cap':=by cases e;exact⟨rfl,rfl⟩
   have pc:=mr.pc hif;have HR:=jh (mr.bk i hif);have cz:=HA.out.keep (w':=wr.alloc (.cells (fO 192 (Fg st af tm i)) 225)) λq hq=>Below.heap_alloc _ _ _ (HA.out.lt q hq);have c1:=cz.c1;rw[HF.out.2] at c1;have HOW:Hid ((wr.alloc (.cells (fO 192 (Fg st af tm i)) 225)).ownsRow 0 223 1 svi i (AV fi)):=jh (by have:=cz.ow;rwa [HF.out.1] at this);have HJ:=jh hj;have HQ:=jh hQ;have HC:=jh cz;clear e mr hif hj hQ hlt cz
   go_wp2_with (first |(refine gV HR.out rfl _ _ rfl rfl _ Tryz.underlying225 rfl Tryz.OZ ?_) |(refine wpList_store_row rfl _ _ _ rfl wr.heap.size (fO 192 (Fg st af tm i)) rfl rfl _ _ (heap_alloc_new _ _) (by rw[dK];exact Tryz.OZ) (by rw[dK,Xb];simp) (rH λ_ _=>Uv _ _ _ _ _) ?_;rw[jB]) |(at_builtin;refine push adY rfl _ _ rfl 0 _ _ _ HOW.out rfl #[.pointer (some ⟨wr.heap.size,0,none⟩)] _ rfl sj rfl (by simp[Value.oneCell']) om om (Nat.zero_le _) ?_;intro g2 cp w5 hown5 hg5 hv5;refine Hid.out ?_))
   have cg:=HC.out.c1;rw[HF.out.2] at cg;have qP:w5.heap[w1.heap.size]?=(wr.alloc (.cells (fO 192 (Fg st af tm i)) 225)).heap[w1.heap.size]?:=hg5.block _ (by have:=HC.out.hr.lt;rw[HF.out.2] at this;exact this) λc=>HC.out.n1 (by rw[HF.out.2];exact HC.out.og.symm.trans c.symm);have hrw:=HC.out.hr;rw[HF.out.2] at hrw;have k1:=(hrw.of_block qP).c 1;have k2:=(hrw.of_block qP).frozen 1;have ho:=Row.lit (n:=192) (f:=Fg st af tm fi.nb) wr (fO 192 (Fg st af tm i)) 225 (Nat.le_of_eq (dK _ _).symm) (λq hq=>by rw[HF.out.1];simp[fO]);have hown6:=hown5;rw[←HF.out.1] at hown6;have G:=dL.grow HA.out rfl ho hown6 hg5 hv5;have HG:=jh G;rw[HF.out.1,HF.out.2] at HG;clear hown5 hg5 hv5 qP hrw ho hown6 G cg c1 HOW HR HC;refine jh ?_;go_wp2
   go_roundg (nb-j)
   case measure=>have:=HJ.out;have:=HQ.out;omega
   case rel=>exact⟨j,⟨w1.heap.size,some g2,i+1,dV fi.bs i wr.heap.size⟩,_,oC HJ.out,rfl,jh ⟨HJ.out,rfl⟩,jh HG.out.1,jh (Ny.out.trans HG.out.2)⟩
  ·have d1:decide ((i:Int)<nb)=false:=dF om;have d2:decide (i<nb)=false:=dF hlt;obtain rfl:i=nb:=om;have HR:=jh (show fi.nb=(bg+63) / 64 by rw[HF.out.1,←NS.out,HN.out]);clear hlt;go_wp2;go_ret;exact⟨fi,by rw[HF.out.2];rfl,⟨_,_,_,_,_,_,_,HA.out,O.out,HR.out⟩,Ny.out⟩
end
structure UL (n:Nat) (up lab:Nat→Nat):Prop where
 le:∀i<n,up i≤i
 par:∀i<n,lab (up i)=lab i
 root:∀i<n,up i=i→lab i=i
section
variable {n:Nat} {up lab:Nat→Nat} {a b:Nat}
theorem UL.start (n:Nat):UL n id id:=⟨λ_ _=>Nat.le_refl _,λ_ _=>rfl,λ_ _ _=>rfl⟩
theorem UL.Rl (U:UL n up lab) (ha:a<n) (hr:up a≠a):UL n (λi=>if i=a then up (up a) else up i) lab:=by
 have h1:=U.le a ha;have hp:up a<n:=om;have h2:=U.le _ hp;refine⟨λi hi=>?_,λi hi=>?_,λi hi h=>?_⟩
 ·(try dsimp only);split
  ·rename_i e;omega
  ·exact U.le i hi
 ·(try dsimp only);split
  ·rename_i e;rw[U.par _ hp,e,U.par _ ha]
  ·exact U.par i hi
 ·(try dsimp only at h);split at h
  ·rename_i e;omega
  ·exact U.root i hi h
theorem UL.hang {E:List Ed} {f:List Nat} {i:Nat} (U:UL n up (bW E f i)) (F:Fo n E f) (hi:i<f.length):UL n (λx=>if x=mB E f i then mA E f i else up x) (bW E f (i+1)):=by
 have hm:=F.mlt hi;refine⟨λx hx=>?_,λx hx=>?_,λx hx h=>?_⟩
 ·(try dsimp only);split
  ·omega
  ·exact U.le x hx
 ·(try dsimp only);split
  ·rename_i e;rw[e,Bh hi,Jo F hi]
  ·exact QN (i:=i) (Nat.le_succ i) (U.par x hx)
 ·(try dsimp only at h);split at h
  ·omega
  ·rename_i e;have h1:=U.root x hx h;rw[gZ hi,h1,if_neg e]
end
theorem Wq {n i:Nat} (hi:i<n):dU n id i=1:=by
 unfold dU
 induction n with
 |zero=>omega
 |succ n ih=>
  rw[List.range_succ,List.filter_append,List.length_append]
  by_cases e:i=n
  ·subst e;rw[List.filter_eq_nil_iff.2 (λj hj=>by simp at hj⊢;omega)];simp
  ·rw[ih om];have:¬n=i:=λh=>e h.symm;simp[this]
theorem abV (n:Nat):UF n id id (λ_=>0) 0:=⟨λ_ h=>h,λ_ _ h=>absurd rfl h,λ_ _=>Nat.le_refl _,λ_ _=>rfl,λ_ _ _ _ _ _ h=>h⟩
theorem nL.congr {w:World} {base:Zone} {b ub lb sb n cnt:Nat} {up ls sz up' ls' sz':Nat→Nat} (h:nL w base b ub lb sb n up ls sz cnt) (h1:∀i<n,up i=up' i) (h2:∀i<n,ls i=ls' i) (h3:∀i<n,sz i=sz' i):nL w base b ub lb sb n up' ls' sz' cnt:=
 ⟨h.st,h.rup.congr λi hi=>by unfold iK;rw[h1 i hi],h.rls.congr λi hi=>by unfold iK;rw[h2 i hi],h.yD.congr λi hi=>by unfold iK;rw[h3 i hi],h.ne,h.lo⟩
theorem Xc (k i:Nat):(if i=k then k else if i<k then i else 0)=if i<k+1 then i else 0:=by
 repeat' split
 all_goals omega
theorem abZ (k i:Nat):(if i=k then 1 else if i<k then 1 else 0)=if i<k+1 then 1 else 0:=by
 repeat' split
 all_goals omega
def MdR (w W:World) (n b x y z:Nat):Prop:=(W.cell? ⟨b,0,none⟩=some (.pointer none)∧W.frozen? ⟨b,0,none⟩=false)∧Hid (nL (W.setCell ⟨b,0,none⟩ (.pointer (some ⟨b,0,none⟩))) ⟨w.heap.size,b+1⟩ b x y z n (λ_=>0) (λ_=>0) (λ_=>0) n)∧Hid (Below w.heap.size w W)
theorem RV {w W:World} {n x y z:Nat} (hW:((((w.alloc (.cells (madeCells #[.int .i64 0] n) 3)).alloc (.cells (madeCells #[.int .i64 0] n) 3)).alloc (.cells (madeCells #[.int .i64 0] n) 3)).alloc (.cells #[.pointer none,.slice (some ⟨x,0,none⟩) n n,.slice (some ⟨y,0,none⟩) n n,.slice (some ⟨z,0,none⟩) n n,.int .i64 (n:Nat)] 290)).drew=W) (hx:x=w.heap.size∨x=w.heap.size+1∨x=w.heap.size+1+1) (hy:y=w.heap.size∨y=w.heap.size+1∨y=w.heap.size+1+1) (hz:z=w.heap.size∨z=w.heap.size+1∨z=w.heap.size+1+1) (h1:x≠y) (h2:x≠z) (h3:y≠z):MdR w W n (w.heap.size+1+1+1) x y z:=by
 obtain⟨A1,hA1⟩:∃A1,w.alloc (.cells (madeCells #[.int .i64 0] n) 3)=A1:=⟨_,rfl⟩
 have r1:Row A1 w.heap.size n (λ_=>.int .i64 0):=by rw[←hA1];exact Row.made w (.int .i64 0) n 3
 have s1:A1.heap.size=w.heap.size+1:=by rw[←hA1];simp
 have b1:Below w.heap.size w A1:=by rw[←hA1];exact(Below.refl _ w).alloc (Nat.le_refl _) _
 rw[hA1] at hW;obtain⟨A2,hA2⟩:∃A2,A1.alloc (.cells (madeCells #[.int .i64 0] n) 3)=A2:=⟨_,rfl⟩
 have r2:Row A2 (w.heap.size+1) n (λ_=>.int .i64 0):=by rw[←hA2,←s1];exact Row.made A1 (.int .i64 0) n 3
 have r1:Row A2 w.heap.size n (λ_=>.int .i64 0):=by rw[←hA2];exact r1.alloc _
 have s2:A2.heap.size=w.heap.size+1+1:=by rw[←hA2,World.size_alloc,s1]
 have b2:Below w.heap.size w A2:=by rw[←hA2];exact b1.alloc om _
 rw[hA2] at hW;obtain⟨A3,hA3⟩:∃A3,A2.alloc (.cells (madeCells #[.int .i64 0] n) 3)=A3:=⟨_,rfl⟩
 have r3:Row A3 (w.heap.size+1+1) n (λ_=>.int .i64 0):=by rw[←hA3,←s2];exact Row.made A2 (.int .i64 0) n 3
 have r1:Row A3 w.heap.size n (λ_=>.int .i64 0):=by rw[←hA3];exact r1.alloc _
 have r2:Row A3 (w.heap.size+1) n (λ_=>.int .i64 0):=by rw[←hA3];exact r2.alloc _
 have s3:A3.heap.size=w.heap.size+1+1+1:=by rw[←hA3,World.size_alloc,s2]
 have b3:Below w.heap.size w A3:=by rw[←hA3];exact b2.alloc om _
 rw[hA3] at hW;rw[←s3]
 have r:∀q,(q=w.heap.size∨q=w.heap.size+1∨q=w.heap.size+1+1)→Row W q n (iK λ_=>0)∧A3.heap.size≠q:=λq hq=>by
  refine⟨?_,om⟩;rw[←hW]
  rcases hq with rfl |rfl |rfl
  ·exact r1.alloc _
  ·exact r2.alloc _
  ·exact r3.alloc _
 have st:Row W A3.heap.size 5 (λi=>(#[Value.pointer none,.slice (some ⟨x,0,none⟩) n n,.slice (some ⟨y,0,none⟩) n n,.slice (some ⟨z,0,none⟩) n n,.int .i64 n]:Array Value).getD i undef):=by
  rw[←hW]
  exact Row.lit A3 _ _ (Nat.le_refl _) λi hi=>by
   match i,hi with
   |0,_ |1,_ |2,_ |3,_ |4,_=>rfl
   |k+5,e=>exact absurd e om
 have so:∀q,(q=w.heap.size∨q=w.heap.size+1∨q=w.heap.size+1+1)→Row (W.setCell ⟨A3.heap.size,0,none⟩ (.pointer (some ⟨A3.heap.size,0,none⟩))) q n (iK λ_=>0):=λq hq=>(r q hq).1.setOther (λe=>(r q hq).2 e.symm) _;refine⟨⟨st.c 0,st.frozen 0⟩,jh ⟨(st.set 0 _).congr λi hi=>?_,so x hx,so y hy,so z hz,⟨(r x hx).2,(r y hy).2,(r z hz).2,h1,h2,h3⟩,by simp only[Zone.has];omega⟩,jh (by rw[←hW];exact(b3.alloc om _).drew)⟩
 match i,hi with
 |0,_ |1,_ |2,_ |3,_ |4,_=>rfl
 |k+5,e=>exact absurd e om
theorem RY (n:Nat) (w:World) (hn:n≤65536):
  Calls Tryz.prog 171 #[.int .i64 (n:Nat)] w λe w'=>∃b,e=.returned (.tuple #[.pointer (some ⟨b,0,none⟩),.int .i64 0])∧DS w' ⟨w.heap.size,w'.heap.size⟩ b n id∧Below w.heap.size w w':=by
 have k1:decide ((n:Int)<0)=false:=dF om;have k2:decide ((n:Int)>65536)=false:=dF om
 have hmk:∀w,(Instr.makeSlice 62 (.int .i64 n) (.int .i64 n)).run Tryz.prog w=.ok (.slice (some ⟨w.heap.size,0,none⟩) n n) (w.alloc (.cells (madeCells #[.int .i64 0] n) 3)):=λw=>
  run_make_row' (P:=Tryz.prog) 62 3 (.int .i64 0) 8 Tryz.underlying62 Tryz.ng rfl .i64 .i64 n om om w
 go_in
 go_upto_region 3 with(fail)
 go_cut [4] (λs wx=>∃b x y z,s=.pointer (some ⟨b,0,none⟩)∧MdR w wx n b x y z)
 case first=>
  go_region
  all_goals
   go_wp2;go_meet;exact⟨_,_,_,_,rfl,RV rfl om om om om om om⟩
 case rest=>
  clear hmk;obtain⟨b,x,y,z,rfl,⟨c0,f0⟩,HM,HB⟩:=hcut;go_wp2_with fail;have ad7:=jh (HB.out.setCell (p:=⟨b,0,none⟩) HM.out.lo.1.1 (.pointer (some ⟨b,0,none⟩)));generalize wc.setCell ⟨b,0,none⟩ (.pointer (some ⟨b,0,none⟩))=W at*;clear c0 f0;have M0:=HM.out.congr (up':=λi=>if i<0 then i else 0) (ls':=λi=>if i<0 then i else 0) (sz':=λi=>if i<0 then 1 else 0) (λi _=>by rw[if_neg om]) (λi _=>by rw[if_neg om]) (λi _=>by rw[if_neg om]);have dO:=ad7.out;clear HM HB ad7
  go_loopw [26] (λi wr=>∃k:Nat,k≤n∧i=.int .i64 k∧Hid (nL wr ⟨w.heap.size,b+1⟩ b x y z n (λi=>if i<k then i else 0) (λi=>if i<k then i else 0) (λi=>if i<k then 1 else 0) n)∧Below w.heap.size w wr) (λi _=>n-(intOf i).toNat)
  case atStart=>exact⟨0,Nat.zero_le _,rfl,jh M0,dO⟩
  case round=>
   clear M0 dO;obtain⟨k,hk,rfl,HM,dO⟩:=hrel
   by_cases hlt:k<n
   ·have hki:(0:Int)≤k∧(k:Int)<n:=om;have c1:wr.cell? ⟨b,1,none⟩=some (.slice (some ⟨x,0,none⟩) n n):=HM.out.st.c 1;have c2:wr.cell? ⟨b,2,none⟩=some (.slice (some ⟨y,0,none⟩) n n):=HM.out.st.c 2;have c3:wr.cell? ⟨b,3,none⟩=some (.slice (some ⟨z,0,none⟩) n n):=HM.out.st.c 3;have M1:=HM.out.rG k k;have M2:=M1.Dj k k;have M3:=M2.Pm k 1;have e1:=HM.out.rup.cell hlt;have e2:=HM.out.rup.frozen k;have e3:=M1.rls.cell hlt;have e4:=M1.rls.frozen k;have e5:=M2.yD.cell hlt;have e6:=M2.yD.frozen k;have CO:=jh (M3.drew.congr (up':=λi=>if i<k+1 then i else 0) (ls':=λi=>if i<k+1 then i else 0) (sz':=λi=>if i<k+1 then 1 else 0) (λi _=>Xc k i) (λi _=>Xc k i) (λi _=>abZ k i));have HB3:=jh ((((dO.setCell (p:=⟨x,k,none⟩) HM.out.lo.2.1.1 (.int .i64 k)).setCell (p:=⟨y,k,none⟩) HM.out.lo.2.2.1.1 (.int .i64 k)).setCell (p:=⟨z,k,none⟩) HM.out.lo.2.2.2.1 (.int .i64 ((1:Nat):Int))).drew);have HS:wr.drew.cell? ⟨b,1,none⟩=some (.slice (some ⟨x,0,none⟩) n n)∧wr.drew.cell? ⟨b,2,none⟩=some (.slice (some ⟨y,0,none⟩) n n)∧wr.drew.cell? ⟨b,3,none⟩=some (.slice (some ⟨z,0,none⟩) n n):=⟨c1,c2,c3⟩;have vE:=And.intro (M1.drew.st.c 1) (And.intro (M1.drew.st.c 2) (M1.drew.st.c 3));have HS2:=And.intro (M2.drew.st.c 1) (And.intro (M2.drew.st.c 2) (M2.drew.st.c 3));have EZ:=And.intro (M3.drew.st.c 1) (And.intro (M3.drew.st.c 2) (M3.drew.st.c 3));clear M1 M2 M3 HM;simp only[iK] at e1 e3 e5;go_wp2;refine aj (λw'=>w'.cell? ⟨b,1,none⟩=some (.slice (some ⟨x,0,none⟩) n n)∧w'.cell? ⟨b,2,none⟩=some (.slice (some ⟨y,0,none⟩) n n)∧w'.cell? ⟨b,3,none⟩=some (.slice (some ⟨z,0,none⟩) n n)) (by kernel_rfl) ?_;refine tC 0 ?_;refine tC 1 ?_;refine tC 2 ?_;refine tC 3 ?_;refine tC 4 ?_;refine tC 5 ?_;refine tC 6 ?_;refine tC 7 ?_;refine tC 8 ?_;refine tC 9 ?_;refine tC 10 ?_;refine tC 11 ?_;refine tC 12 ?_;refine tC 13 ?_;refine tC 14 ?_;refine tC 15 ?_;refine tC 16 ?_;refine tC 17 ?_
    try simp only[sD]
    refine rC 18 λK hK=>?_;go_simp;refine hK.out _ _ vE (λHS=>?_);clear hK;refine tC 19 ?_
    try simp only[sD]
    refine rC 20 λK hK=>?_;go_simp;refine hK.out _ _ HS2 (λHS=>?_);clear hK;refine tC 21 ?_
    try simp only[sD]
    refine rC 22 λK hK=>?_;go_simp;refine hK.out _ _ EZ (λ_=>?_);clear hK;refine dD ⟨rfl,?_⟩;go_wp2;go_roundw
    case rel=>exact⟨k+1,om,by go_num,CO,HB3.out⟩
    case measure=>simp only[intOf];omega
   ·have hke:k=n:=om
    have HD:DS wr ⟨w.heap.size,wr.heap.size⟩ b n id:=DS.widen (z:=⟨w.heap.size,b+1⟩) ⟨x,y,z,id,id,λ_=>1,λ_=>0,0,by
     rw[JX]
     exact HM.out.congr (λi hi=>if_pos om) (λi hi=>if_pos om) (λi hi=>if_pos om),abV n,gP.id,λi hi _=>⟨rfl,(Wq hi).symm⟩⟩ (Nat.le_refl _) HM.out.size.1
    have HD:=jh HD;clear HM;go_wp2;go_ret2;exact⟨_,rfl,HD.out,dO⟩
def kQ (up rt:Nat→Nat) (q:Nat):Value:=.int .i64 ((if q%2=0 then up (q / 2) else rt (q / 2):Nat):Int)
theorem Jd (up rt:Nat→Nat) (x:Nat):kQ up rt (x*2)=.int .i64 (up x:Nat):=by
 unfold kQ;rw[if_pos om,show x*2 / 2=x by omega]
theorem Je (up rt:Nat→Nat) (x:Nat):kQ up rt (x*2+1)=.int .i64 (rt x:Nat):=by
 unfold kQ;rw[if_neg om,show(x*2+1) / 2=x by omega]
section
variable {w:World} {g n:Nat} {up rt:Nat→Nat}
theorem wK (h:Row w g (2*n) (kQ up rt)) (x v:Nat):Row (w.setCell ⟨g,x*2,none⟩ (.int .i64 (v:Nat))) g (2*n) (kQ (λi=>if i=x then v else up i) rt):=
 (h.set (x*2) _).congr λq _=>by
  by_cases e:q=x*2
  ·rw[if_pos e,e,Jd,if_pos rfl]
  ·rw[if_neg e];unfold kQ
   by_cases c:q%2=0
   ·rw[if_pos c,if_pos c];dsimp only;rw[if_neg om]
   ·rw[if_neg c,if_neg c]
theorem FI (h:Row w g (2*n) (kQ up rt)) (x v:Nat):Row (w.setCell ⟨g,x*2+1,none⟩ (.int .i64 (v:Nat))) g (2*n) (kQ up (λi=>if i=x then v else rt i)):=
 (h.set (x*2+1) _).congr λq _=>by
  by_cases e:q=x*2+1
  ·rw[if_pos e,e,Je,if_pos rfl]
  ·rw[if_neg e];unfold kQ
   by_cases c:q%2=0
   ·rw[if_pos c,if_pos c]
   ·rw[if_neg c,if_neg c];dsimp only;rw[if_neg om]
theorem lD (h:Row w g (2*n) (kQ up rt)) {x:Nat} (hx:x<n):w.cell? ⟨g,x*2,none⟩=some (.int .i64 (up x:Nat)):=by rw[h.cell om,Jd]
theorem jN (h:Row w g (2*n) (kQ up rt)) {x:Nat} (hx:x<n):w.cell? ⟨g,x*2+1,none⟩=some (.int .i64 (rt x:Nat)):=by rw[h.cell om,Je]
end
def aa5 (sb n x:Nat) (rt lab:Nat→Nat) (w:World) (e:Ending) (w':World):Prop:=
 e=.returned (.int .i64 (lab x:Nat))∧∃up',Row w' sb (2*n) (kQ up' rt)∧UL n up' lab∧Inner ⟨sb,sb+1⟩ w w'
theorem zA (sb n x:Nat) (up rt lab:Nat→Nat) (w:World) (hR:Row w sb (2*n) (kQ up rt)) (U:UL n up lab) (K:gP lab) (hx:x<n):
  Calls Tryz.prog 144 #[.slice (some ⟨sb,0,none⟩) n n,.int .i64 (x:Nat)] w (aa5 sb n x rt lab w):=by
 have HR:=jh hR;have HU:=jh U;have HK:=jh K;clear hR U K;go_in;go_wp2
 go_loopw [1] (λi wr=>∃(y:Nat) (u:Nat→Nat),y<n∧i=.int .i64 y∧Hid (lab y=lab x)∧Hid (Row wr sb (2*n) (kQ u rt))∧Hid (UL n u lab)∧Hid (Inner ⟨sb,sb+1⟩ w wr)) (λi _=>(intOf i).toNat)
 case atStart=>exact⟨x,up,hx,rfl,jh rfl,HR,HU,jh (Inner.refl _ _)⟩
 case round=>
  clear HR HU;obtain⟨y,u,hy,rfl,HL,HR,HU,HI⟩:=hrel;have c1:=lD HR.out hy;have hyi:(0:Int)≤y∧(y:Int)<n:=om
  by_cases hr:u y=y
  ·have hz:(((u y:Nat):Int) !=(y:Int))=false:=by simp[hr]
   have HQ:=jh (show lab x=y by rw[←HL.out];exact HU.out.root y hy hr);generalize u y=p at c1 hz;clear hr;go_wp2;go_ret;exact⟨by rw[HQ.out];rfl,u,HR.out,HU.out,HI.out⟩
  ·have hz:(((u y:Nat):Int) !=(y:Int))=true:=by simp;omega
   have h1:=HU.out.le y hy;have hp:u y<n:=om;have c2:=lD HR.out hp;have h2:=HU.out.le _ hp;have hpi:(0:Int)≤(u y:Nat)∧((u y:Nat):Int)<n:=om;have f1:=HR.out.frozen (y*2);have R2:=wK HR.out y (u (u y));have Ka:=jh (HU.out.Rl hy hr);have HL2:=jh (show lab (u (u y))=lab x by rw[HU.out.par _ hp,HU.out.par _ hy,HL.out])
   have c3:(wr.setCell ⟨sb,y*2,none⟩ (.int .i64 (u (u y):Nat))).cell? ⟨sb,y*2,none⟩=some (.int .i64 (u (u y):Nat)):=by rw[lD R2 hy,if_pos rfl]
   have HR2:=jh R2;have hlt:u (u y)<y:=om;have hpp:u (u y)<n:=om;have HI2:=jh (HI.out.setCell (p:=⟨sb,y*2,none⟩) ⟨Nat.le_refl _,Nat.lt_succ_self _⟩ (.int .i64 (u (u y):Nat)));clear R2 HR HU HL HI h1 h2 hr;go_wp2
   go_still_tail 13,(by kernel_rfl)
   go_wp2;go_roundw
   case rel=>exact⟨u (u y),_,hpp,rfl,HL2,jh (HR2.out.drewN 1),Ka,jh HI2.out.drew⟩
   case measure=>simpa only[intOf,Int.toNat_natCast] using hlt
structure fF where
 t:Nat
 l:Nat
 r:Nat
 p:Nat
 h:Nat
 s:Nat
 u:Nat
def fF.list (b:fF):List Nat:=[b.t,b.l,b.r,b.p,b.h,b.s,b.u]
def Dif (l:List Nat):Prop:=∀i j a b:Nat,l[i]?=some a→l[j]?=some b→i≠j→a≠b
theorem Dif.ne {l:List Nat} (h:Dif l) (i j:Nat) {a b:Nat} (hi:l[i]?=some a) (hj:l[j]?=some b) (hij:i≠j):a≠b:=h i j a b hi hj hij
def lW (n z:Nat) (b:fF):Array Value:=#[.int .i64 (n:Nat),.slice (some ⟨b.l,0,none⟩) z z,.slice (some ⟨b.r,0,none⟩) z z,.slice (some ⟨b.p,0,none⟩) z z,.slice (some ⟨b.h,0,none⟩) z z,.slice (some ⟨b.s,0,none⟩) z z]
def trC (n z:Nat) (b:fF) (i:Nat):Value:=(lW n z b).getD i undef
def dJ (f:Nat→Int) (x:Nat):Value:=.int .i64 (f x)
structure nK (w:World) (b:fF) (n z:Nat) (L R P H Z:Nat→Int) (up rt:Nat→Nat):Prop where
 dif:Dif b.list
 st:Row w b.t 6 (trC n z b)
 rl:Row w b.l z (dJ L)
 rr:Row w b.r z (dJ R)
 rp:Row w b.p z (dJ P)
 rh:Row w b.h z (dJ H)
 rs:Row w b.s z (dJ Z)
 ru:Row w b.u (2*n) (kQ up rt)
def nM (f:Nat→Int) (x:Nat) (v:Int) (y:Nat):Int:=if y=x then v else f y
theorem nW (f:Nat→Int) (x:Nat) (v:Int) (y:Nat):(if y=x then Value.int .i64 v else dJ f y)=dJ (nM f x v) y:=by
 unfold dJ nM;by_cases c:y=x<;>simp[c]
section
variable {w w':World} {b:fF} {n z:Nat} {L R P H Z L' R' P' H' Z':Nat→Int} {up rt up' TI:Nat→Nat}
theorem nK.drew (h:nK w b n z L R P H Z up rt):nK w.drew b n z L R P H Z up rt:=⟨h.dif,h.st,h.rl,h.rr,h.rp,h.rh,h.rs,h.ru⟩
theorem nK.congr (h:nK w b n z L R P H Z up rt) (e1:∀i<z,L i=L' i) (e2:∀i<z,R i=R' i) (e3:∀i<z,P i=P' i) (e4:∀i<z,H i=H' i) (e5:∀i<z,Z i=Z' i):nK w b n z L' R' P' H' Z' up rt:=
 ⟨h.dif,h.st,h.rl.congr λi hi=>by unfold dJ;rw[e1 i hi],h.rr.congr λi hi=>by unfold dJ;rw[e2 i hi],h.rp.congr λi hi=>by unfold dJ;rw[e3 i hi],h.rh.congr λi hi=>by unfold dJ;rw[e4 i hi],h.rs.congr λi hi=>by unfold dJ;rw[e5 i hi],h.ru⟩
theorem nK.BK (h:nK w b n z L R P H Z up rt) (e1:∀i<n,up i=up' i) (e2:∀i<n,rt i=TI i):nK w b n z L R P H Z up' TI:=
 ⟨h.dif,h.st,h.rl,h.rr,h.rp,h.rh,h.rs,h.ru.congr λq hq=>by unfold kQ;rw[e1 (q / 2) om,e2 (q / 2) om]⟩
theorem nK.UA (h:nK w b n z L R P H Z up rt) (x:Nat) (v:Int):nK (w.setCell ⟨b.l,x,none⟩ (.int .i64 v)) b n z (nM L x v) R P H Z up rt:=
 ⟨h.dif,h.st.setOther (h.dif.ne 0 1 rfl rfl (by decide)) _,(h.rl.set x _).congr λy _=>nW L x v y,h.rr.setOther (h.dif.ne 2 1 rfl rfl (by decide)) _,h.rp.setOther (h.dif.ne 3 1 rfl rfl (by decide)) _,h.rh.setOther (h.dif.ne 4 1 rfl rfl (by decide)) _,h.rs.setOther (h.dif.ne 5 1 rfl rfl (by decide)) _,h.ru.setOther (h.dif.ne 6 1 rfl rfl (by decide)) _⟩
theorem nK.Uz (h:nK w b n z L R P H Z up rt) (x:Nat) (v:Int):nK (w.setCell ⟨b.r,x,none⟩ (.int .i64 v)) b n z L (nM R x v) P H Z up rt:=
 ⟨h.dif,h.st.setOther (h.dif.ne 0 2 rfl rfl (by decide)) _,h.rl.setOther (h.dif.ne 1 2 rfl rfl (by decide)) _,(h.rr.set x _).congr λy _=>nW R x v y,h.rp.setOther (h.dif.ne 3 2 rfl rfl (by decide)) _,h.rh.setOther (h.dif.ne 4 2 rfl rfl (by decide)) _,h.rs.setOther (h.dif.ne 5 2 rfl rfl (by decide)) _,h.ru.setOther (h.dif.ne 6 2 rfl rfl (by decide)) _⟩
theorem nK.Pn (h:nK w b n z L R P H Z up rt) (x:Nat) (v:Int):nK (w.setCell ⟨b.p,x,none⟩ (.int .i64 v)) b n z L R (nM P x v) H Z up rt:=
 ⟨h.dif,h.st.setOther (h.dif.ne 0 3 rfl rfl (by decide)) _,h.rl.setOther (h.dif.ne 1 3 rfl rfl (by decide)) _,h.rr.setOther (h.dif.ne 2 3 rfl rfl (by decide)) _,(h.rp.set x _).congr λy _=>nW P x v y,h.rh.setOther (h.dif.ne 4 3 rfl rfl (by decide)) _,h.rs.setOther (h.dif.ne 5 3 rfl rfl (by decide)) _,h.ru.setOther (h.dif.ne 6 3 rfl rfl (by decide)) _⟩
theorem nK.setH (h:nK w b n z L R P H Z up rt) (x:Nat) (v:Int):nK (w.setCell ⟨b.h,x,none⟩ (.int .i64 v)) b n z L R P (nM H x v) Z up rt:=
 ⟨h.dif,h.st.setOther (h.dif.ne 0 4 rfl rfl (by decide)) _,h.rl.setOther (h.dif.ne 1 4 rfl rfl (by decide)) _,h.rr.setOther (h.dif.ne 2 4 rfl rfl (by decide)) _,h.rp.setOther (h.dif.ne 3 4 rfl rfl (by decide)) _,(h.rh.set x _).congr λy _=>nW H x v y,h.rs.setOther (h.dif.ne 5 4 rfl rfl (by decide)) _,h.ru.setOther (h.dif.ne 6 4 rfl rfl (by decide)) _⟩
theorem nK.Uy (h:nK w b n z L R P H Z up rt) (x:Nat) (v:Int):nK (w.setCell ⟨b.s,x,none⟩ (.int .i64 v)) b n z L R P H (nM Z x v) up rt:=
 ⟨h.dif,h.st.setOther (h.dif.ne 0 5 rfl rfl (by decide)) _,h.rl.setOther (h.dif.ne 1 5 rfl rfl (by decide)) _,h.rr.setOther (h.dif.ne 2 5 rfl rfl (by decide)) _,h.rp.setOther (h.dif.ne 3 5 rfl rfl (by decide)) _,h.rh.setOther (h.dif.ne 4 5 rfl rfl (by decide)) _,(h.rs.set x _).congr λy _=>nW Z x v y,h.ru.setOther (h.dif.ne 6 5 rfl rfl (by decide)) _⟩
theorem nK.zn (h:nK w b n z L R P H Z up rt) (hi:Inner ⟨b.u,b.u+1⟩ w w') (hr:Row w' b.u (2*n) (kQ up' TI)):nK w' b n z L R P H Z up' TI:=by
 have k:∀g,g≠b.u→¬(Zone.mk b.u (b.u+1)).has g:=λg hg c=>by unfold Zone.has at c;simp at c;omega
 exact⟨h.dif,h.st.inner hi (k _ (h.dif.ne 0 6 rfl rfl (by decide))),h.rl.inner hi (k _ (h.dif.ne 1 6 rfl rfl (by decide))),h.rr.inner hi (k _ (h.dif.ne 2 6 rfl rfl (by decide))),h.rp.inner hi (k _ (h.dif.ne 3 6 rfl rfl (by decide))),h.rh.inner hi (k _ (h.dif.ne 4 6 rfl rfl (by decide))),h.rs.inner hi (k _ (h.dif.ne 5 6 rfl rfl (by decide))),hr⟩
theorem nK.rG (h:nK w b n z L R P H Z up rt) (x v:Nat):nK (w.setCell ⟨b.u,x*2,none⟩ (.int .i64 (v:Nat))) b n z L R P H Z (λi=>if i=x then v else up i) rt:=
 h.zn ((Inner.refl _ _).setCell (p:=⟨b.u,x*2,none⟩) ⟨Nat.le_refl _,Nat.lt_succ_self _⟩ _) (wK h.ru x v)
theorem nK.I5 (h:nK w b n z L R P H Z up rt) (x v:Nat):nK (w.setCell ⟨b.u,x*2+1,none⟩ (.int .i64 (v:Nat))) b n z L R P H Z up (λi=>if i=x then v else rt i):=
 h.zn ((Inner.refl _ _).setCell (p:=⟨b.u,x*2+1,none⟩) ⟨Nat.le_refl _,Nat.lt_succ_self _⟩ _) (FI h.ru x v)
theorem nK.fields (h:nK w b n z L R P H Z up rt):w.cell? ⟨b.t,1,none⟩=some (.slice (some ⟨b.l,0,none⟩) z z)∧w.cell? ⟨b.t,2,none⟩=some (.slice (some ⟨b.r,0,none⟩) z z)∧w.cell? ⟨b.t,3,none⟩=some (.slice (some ⟨b.p,0,none⟩) z z)∧w.cell? ⟨b.t,4,none⟩=some (.slice (some ⟨b.h,0,none⟩) z z)∧w.cell? ⟨b.t,5,none⟩=some (.slice (some ⟨b.s,0,none⟩) z z):=
 ⟨h.st.c 1,h.st.c 2,h.st.c 3,h.st.c 4,h.st.c 5⟩
end
end Go.Proofs.YtpaeogglppampaaGreatDoor
