/- Lemmas of the proof. Conditions: as each one states. -/
import Derived.Test.YtpaeogglppampaaGreatQq
import Derived.Test.YtpaeogglppampaaGreatQM
import Derived.Maps.OwnIn
import Derived.Maps.OwnOps
import Derived.Maps.OwnSet
import Derived.Lib.SlKeysI
set_option maxRecDepth 100000
set_option maxHeartbeats 16000000
namespace Go.Proofs.YtpaeogglppampaaGreat
open Go.RowKit
section
open Go.Shelf Go.Maps Go.Sort
theorem aeB:Keyed Tryz.prog 3:=int_keyed Tryz.underlying3
theorem adL (w:World):(zeroValue 3).run Tryz.prog w=.ok (.int .i64 0) w:=by kernel_rfl
theorem Bw:Tryz.prog.underlying 157=some (.map 3 3):=Tryz.underlying157
abbrev ky (x:Int):Lit:=.int .i64 x
abbrev EH (x:Int):DataW Unit:=.lit (.int .i64 x)
theorem kyL (x:Int):WideAt.IsKeyLit (ky x):=trivial
theorem RF {x y:Int} (h:EH x=EH y):x=y:=by simpa using h
theorem YH {x y:Int} (h:x≠y):ky x≠ky y:=λe=>h (by simpa using e)
structure Fz (D:DataW Unit) (f:Int→Int):Prop where
 tidy:Tidy D
 at_:∀x,D.atKey (ky x) (EH 0)=EH (f x)
 ints:∀es,D=.map es→∀p∈es,∃x,p.1=ky x
theorem Fz.nil:Fz (.map []) (λ_=>0):=⟨tidy_empty,λ_=>rfl,λes h p hp=>by cases h;cases hp⟩
theorem qp {H:Type} {x:Lit × DataW H}:∀{l:List (Lit × DataW H)} {p:Lit × DataW H},p∈DataW.insert x l→p=x∨p∈l
 |[],p,h=>by simp only[DataW.insert,List.mem_singleton] at h;exact .inl h
 |y::r,p,h=>by
  simp only[DataW.insert] at h
  split at h
  ·exact List.mem_cons.1 h
  ·rcases List.mem_cons.1 h with h |h
   ·exact .inr (by simp[h])
   ·rcases qp h with h |h
    ·exact .inl h
    ·exact .inr (by simp[h])
theorem Rs {D:DataW Unit} (hD:IsMap D) (h:∀es,D=.map es→∀p∈es,∃x,p.1=ky x) (x c:Int):∀es,D.put (ky x) (EH c)=.map es→∀p∈es,∃x,p.1=ky x:=by
 obtain⟨es,rfl⟩:=hD;intro fs hf p hp
 have h7:DataW.insert (ky x,EH c) (es.filter λp=>!p.1.sameKey (ky x))=fs:=by simpa [DataW.put] using hf
 rw[←h7] at hp
 rcases qp hp with rfl |hp
 ·exact⟨_,rfl⟩
 ·exact h es rfl p (List.mem_filter.1 hp).1
theorem Fz.put {D:DataW Unit} {f g:Int→Int} (h:Fz D f) (x c:Int) (hg:∀y,g y=if y=x then c else f y):Fz (D.put (ky x) (EH c)) g:=
 ⟨h.tidy.put (kyL x) _,λy=>by
  by_cases e:y=x
  ·subst e;rw[atKey_put_same h.tidy.isMap (kyL _),hg,if_pos rfl]
  ·rw[atKey_put_other (YH e),h.at_,hg,if_neg e],Rs h.tidy.isMap h.ints x c⟩
theorem zN:∀{l r:List Int},l.Nodup→(∀x∈l,x∈r)→l.length≤r.length
 |[],_,_,_=>Nat.zero_le _
 |x::l,r,hn,h=>by
  obtain⟨h1,h2⟩:=List.nodup_cons.1 hn;have hx:=h x sj;have:=zN (r:=r.erase x) h2 λy hy=>(List.mem_erase_of_ne (λe=>h1 (by rw[←e];exact hy))).2 (h y (by simp[hy]));have e:=List.length_erase_of_mem hx;have hp:=List.length_pos_of_mem hx;simp only[List.length_cons];omega
theorem kT {D:DataW Unit} (ht:Tidy D) (h:∀es,D=.map es→∀p∈es,∃x,p.1=ky x):(intKeys D).Nodup∧(∀x,x∈intKeys D↔Maps.has D (ky x)=true)∧(intKeys D).length=Maps.size D:=by
 obtain⟨es,rfl,hp⟩:=ht;have hk:=h es rfl;refine⟨?_,λx=>?_,by simp[intKeys,Maps.size]⟩
 ·show(es.map λp=>Go.intOf p.1).Nodup;refine List.pairwise_map.2 (hp.imp_of_mem fun{p q} hp' hq' hne e=>hne ?_);obtain⟨a,ha⟩:=hk p hp';obtain⟨b,hb⟩:=hk q hq';rw[ha,hb] at e⊢;exact congrArg _ e
 ·rw[has_eq,List.any_eq_true];show x∈es.map (λp=>Go.intOf p.1)↔_;rw[List.mem_map];constructor
  ·rintro⟨p,hp',rfl⟩;obtain⟨a,ha⟩:=hk p hp';exact⟨p,hp',by rw[ha];simp[Lit.sameKey,Go.intOf]⟩
  ·rintro⟨p,hp',hs⟩;obtain⟨a,ha⟩:=hk p hp';rw[ha] at hs;exact⟨p,hp',by rw[ha];simpa [Lit.sameKey,Go.intOf] using hs⟩
theorem DF {D:DataW Unit} (ht:Tidy D) (h:∀es,D=.map es→∀p∈es,∃x,p.1=ky x) {r:List Int} (hr:∀x,Maps.has D (ky x)=true→x∈r):Maps.size D≤r.length:=by
 obtain⟨h1,h2,h3⟩:=kT ht h;rw[←h3];exact zN h1 λx hx=>hr x ((h2 x).1 hx)
structure uU (D:DataW Unit) (l:List Int):Prop where
 a:Fz D (λx=>(l.count x:Nat))
 has:∀x,Maps.has D (ky x)=true↔x∈l
theorem uU.nil:uU (.map []) []:=⟨Fz.nil,λx=>by simp[Maps.has]⟩
theorem uU.snoc {D:DataW Unit} {l:List Int} (h:uU D l) (x:Int) {c:Int} (hc:c=(l.count x:Nat)+1):uU (D.put (ky x) (EH c)) (l++[x]):=
 ⟨h.a.put x c λy=>by
  by_cases e:y=x
  ·subst e;rw[if_pos rfl,hc];simp
  ·have e':¬x=y:=λe2=>e e2.symm
   rw[if_neg e];simp[List.count_append,e'],λy=>by
  by_cases e:y=x
  ·subst e;rw[has_put_same h.a.tidy.isMap (kyL _)];simp
  ·rw[has_put_other (YH e),h.has];simp[e]⟩
abbrev uR (w:World) (mb N:Nat) (D:DataW Unit):Prop:=w.ownsMap Tryz.prog 3 (plainElem (H:=Unit) Tryz.prog 3) mb N D
theorem look_eq {w:World} {mb N:Nat} {D:DataW Unit} {f:Int→Int} (hown:uR w mb N D) (hA:Fz D f) {x:Int} (hx:(Lit.int .i64 x).wf=true):
  (Instr.lookup 157 (.map (some mb)) (.int .i64 x) false).run Tryz.prog w=.ok (.int .i64 (f x)) w:=by
 obtain⟨c,hrun,hat,_⟩:=hown.lookup_int aeB Bw Tryz.underlying3 (adL _) (keyOf_int_mk Tryz.underlying3 hx);have e:=RF (hat.symm.trans (hA.at_ x));rw[←e];exact hrun
theorem vZ {w w':World} {mb N:Nat} {D:DataW Unit} (h:uR w mb N D) (e:w'.heap[mb]?=w.heap[mb]?):uR w' mb N D:=by
 obtain⟨es,ck,h1,h2⟩:=h;exact⟨es,ck,e.trans h1,h2⟩
theorem Rd.mapped {t:TypeId} {size:Nat} {w w':World} {B mb N:Nat} {D:DataW Unit} {v:Value} {n:Nat} {f:Nat→Nat→Value} {A:Nat→Addr} (h:Rd t size w B v n f A) (hown:uR w mb N D) (hg:w.grownBy w' (some mb)):Rd t size w' B v n f A:=
 ⟨h.ix,h.lt,λi hi j hj=>cell_kept (h.cell i hi j hj) hg (λr e=>by
  cases e;obtain⟨es,ck,h1,_⟩:=hown
  exact⟨_,h1,rfl⟩)⟩
theorem Rd.grown {t:TypeId} {size:Nat} {w w':World} {B:Nat} {v:Value} {n:Nat} {f:Nat→Nat→Value} {A:Nat→Addr} {row:Option Nat} (h:Rd t size w B v n f A) (hB:B≤w.heap.size) (hg:w.grownBy w' row) (hr:∀i<n,row≠some (A i).block):Rd t size w' B v n f A:=
 ⟨h.ix,h.lt,λi hi j hj=>by
  rw[World.cell?_of_block (hg.block _ (by rw[add_block];have:=h.lt i hi;omega) (λe=>hr i hi (by rw[add_block] at e;exact e.symm)))]
  exact h.cell i hi j hj⟩
theorem uU.vals {D:DataW Unit} {n:Nat} {f:Nat→Nat} (h:uU D (aH (jy n f))) (hn:∀x<n,f x<n) (K:dR f):(∀x,x∈(intKeys D).mergeSort (λx y=>decide (x≤y))↔x∈aH (nL f n)):=λx=>by
 obtain⟨h1,h2,_⟩:=kT h.a.tidy h.a.ints;rw[(List.mergeSort_perm (intKeys D) _).mem_iff,h2,h.has];unfold aH jy nL;simp only[List.mem_map,List.mem_filter,List.mem_range,decide_eq_true_eq];constructor
 ·rintro⟨y,⟨j,hj,rfl⟩,rfl⟩;exact⟨f j,⟨hn j hj,K.idem j⟩,rfl⟩
 ·rintro⟨y,⟨hy,hf⟩,rfl⟩;exact⟨y,⟨y,hy,hf⟩,rfl⟩
theorem Jk:∀{l m:List Int},l.Pairwise (·<·)→m.Pairwise (·<·)→(∀x,x∈l↔x∈m)→l=m
 |[],[],_,_,_=>rfl
 |[],b::m,_,_,h=>absurd ((h b).2 sj) sj
 |a::l,[],_,_,h=>absurd ((h a).1 sj) sj
 |a::l,b::m,hl,hm,h=>by
  have⟨h1,h2⟩:=List.pairwise_cons.1 hl;have⟨h3,h4⟩:=List.pairwise_cons.1 hm
  have e:a=b:=by
   rcases List.mem_cons.1 ((h a).1 sj) with c |c
   ·exact c
   ·rcases List.mem_cons.1 ((h b).2 sj) with d |d
    ·exact d.symm
    ·have:=h1 b d;have:=h3 a c;omega
  subst e;rw[Jk h2 h4 λx=>?_];constructor
  ·intro hx
   rcases List.mem_cons.1 ((h x).1 (by simp[hx])) with c |c
   ·have:=h1 x hx;omega
   ·exact c
  ·intro hx
   rcases List.mem_cons.1 ((h x).2 (by simp[hx])) with c |c
   ·have:=h3 x hx;omega
   ·exact c
theorem aal (f:Nat→Nat) (n:Nat):(aH (nL f n)).Pairwise (·<·):=by
 unfold aH nL;rw[List.pairwise_map];exact((List.pairwise_lt_range (n:=n)).filter _).imp λh=>om
theorem uU.sorted {D:DataW Unit} {n:Nat} {f:Nat→Nat} {ss:List Int} (h:uU D (aH (jy n f))) (hn:∀x<n,f x<n) (K:dR f) (hp:ss.Perm (intKeys D)):ss.mergeSort (λx y=>decide (x≤y))=aH (nL f n):=by
 obtain⟨h1,h2,_⟩:=kT h.a.tidy h.a.ints
 have tr:∀a b c:Int,decide (a≤b)=true→decide (b≤c)=true→decide (a≤c)=true:=λa b c h1 h2=>by simp only[decide_eq_true_eq] at*;exact Int.le_trans h1 h2
 have tt:∀a b:Int,(decide (a≤b)||decide (b≤a))=true:=λa b=>by simp only[Bool.or_eq_true,decide_eq_true_eq];exact Int.le_total a b
 have hs:=List.pairwise_mergeSort tr tt ss;have hnd:(ss.mergeSort (λx y=>decide (x≤y))).Nodup:=((List.mergeSort_perm ss _).trans hp).nodup_iff.2 h1;refine Jk ((hs.and hnd).imp λ⟨a,b⟩=>by simp only[decide_eq_true_eq] at a;omega) (aal f n) λx=>?_;rw[(List.mergeSort_perm ss _).mem_iff,hp.mem_iff,←(List.mergeSort_perm (intKeys D) (λx y=>decide (x≤y))).mem_iff];exact h.vals hn K x
theorem Xz (n:Nat) (f:Nat→Nat) (x:Nat):(aH (jy n f)).count ((f x:Nat):Int)=bO n f x:=by
 unfold aH jy bO;rw[List.count_eq_countP,List.countP_map,List.countP_map,List.countP_eq_length_filter]
 congr 1
 refine List.filter_congr λi _=>?_;simp only[Function.comp]
 by_cases e:f i=f x
 ·simp[e]
 ·have:¬((f i:Nat):Int)=((f x:Nat):Int):=om;simp[e,this]
end
end Go.Proofs.YtpaeogglppampaaGreat
