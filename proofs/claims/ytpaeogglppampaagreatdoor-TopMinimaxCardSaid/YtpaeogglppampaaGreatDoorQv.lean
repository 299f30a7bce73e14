/- Lemmas of the proof. Conditions: as each one states. -/
import Derived.Test.YtpaeogglppampaaGreatDoorQm
import Derived.Maps.Range
import Derived.Maps.OwnIn
import Derived.Maps.Own
import Derived.Maps.OwnSet
import Derived.Maps.OwnOps
set_option maxRecDepth 100000
set_option maxHeartbeats 16000000
namespace Go.Proofs.YtpaeogglppampaaGreatDoor
open Go.RowKit
section
open Go.Maps
def kJ (v:Value):Option (DataW Value × List MemPlace):=some (.held v,[])
theorem zI {α:Type} [DecidableEq α]:∀{l r:List α},l.Nodup→(∀x∈l,x∈r)→l.length≤r.length
 |[],_,_,_=>Nat.zero_le _
 |a::l,r,h,hs=>by
  rw[List.nodup_cons] at h;have h1:a∈r:=hs a (List.mem_cons_self ..);have h2:l.length≤(r.erase a).length:=zI h.2 λx hx=>(List.mem_erase_of_ne (λc=>h.1 (by rw[←c];exact hx))).2 (hs x (List.mem_cons_of_mem _ hx));rw[List.length_erase_of_mem h1] at h2;have:=List.length_pos_of_mem h1;simp only[List.length_cons];omega
structure eO (w:World) (k:TypeId) (q:IntKind) (b:Nat) (M:Int→Option Value):Prop where
 ex:∃n D,w.ownsMap Tryz.prog k kJ b n D∧∀x,(Lit.int q x).wf=true→Maps.has D (.int q x)=(M x).isSome∧∀y,M x=some y→∀z,D.atKey (.int q x) z=.held y
 wf:∀x y,M x=some y→(Lit.int q x).wf=true
def fG (M:Int→Option Value) (x:Int) (y:Option Value):Int→Option Value:=λj=>if j=x then y else M j
section
variable {w w':World} {k e t:TypeId} {q:IntKind} {b:Nat} {M:Int→Option Value}
theorem eO.lt (h:eO w k q b M):b<w.heap.size:=by
 obtain⟨n,D,h1,_⟩:=h.ex;exact h1.lt
theorem eO.keep (h:eO w k q b M) (e:w'.heap[b]?=w.heap[b]?):eO w' k q b M:=by
 obtain⟨n,D,⟨es,ck,h1,h2⟩,h3⟩:=h.ex;exact⟨⟨n,D,⟨es,ck,e.trans h1,h2⟩,h3⟩,h.wf⟩
theorem eO.made (w:World) (k:TypeId) (q:IntKind):eO (w.alloc (.map #[] 0)) k q w.heap.size (λ_=>none):=
 ⟨⟨0,_,World.ownsMap_made w Tryz.prog k kJ,λx _=>⟨rfl,λy hy=>by cases hy⟩⟩,λx y hy=>by cases hy⟩
theorem eO.look (c:Bool) (h:eO w k q b M) (hk:Tryz.prog.underlying k=some (.int q)) (ht:Tryz.prog.underlying t=some (.map k e)) {z:Value} (hz:(zeroValue e).run Tryz.prog w=.ok z w) {x:Int} (hx:(Lit.int q x).wf=true):
  (Instr.lookup t (.map (some b)) (.int q x) c).run Tryz.prog w=.ok (if c then .tuple #[(M x).getD z,.bool (M x).isSome] else(M x).getD z) w:=by
 obtain⟨n,D,⟨es,ck,hb,F,hs,hD⟩,h3⟩:=h.ex;have K:=int_keyed hk;have hkey:=keyOf_int_mk hk hx;obtain⟨h4,h5⟩:=h3 x hx
 rcases Maps.fit_look c K ht hz hb F hkey with⟨hrun,_,hat⟩ |⟨e0,y,_,_,hrun,hRv,hat,_⟩
 ·rw[←hD] at hat;rw[has_false_of_atKey hat] at h4;have:M x=none:=Option.isSome_eq_false_iff.1 h4.symm |>Option.isNone_iff_eq_none.1;rw[hrun,this];rfl
 ·rw[←hD] at hat;rw[has_true_of_atKey hat] at h4;obtain⟨v,hv⟩:=Option.isSome_iff_exists.1 h4.symm;have h6:=(hat .nil).symm.trans (h5 v hv .nil);have h7:y=(.held e0.val,[]):=(Option.some.inj hRv).symm;rw[h7] at h6;obtain rfl:e0.val=v:=DataW.held.inj h6;rw[hrun,hv];rfl
theorem eO.tight {n:Nat} {D:DataW Value} (h:w.ownsMap Tryz.prog k kJ b n D):w.ownsMap Tryz.prog k kJ b (Maps.size D) D:=by
 obtain⟨es,ck,hb,F,hs,hD⟩:=h;refine⟨es,ck,hb,F,?_,hD⟩;rw[hD,size_eq,length_sorted,List.length_map,Array.length_toList];exact Nat.le_refl _
theorem eO.size_le {n:Nat} {D:DataW Value} (hk:Tryz.prog.underlying k=some (.int q)) (h:w.ownsMap Tryz.prog k kJ b n D) {K:List Int} (hK:∀x,(Lit.int q x).wf=true→Maps.has D (.int q x)=true→x∈K):Maps.size D≤K.length:=by
 have KK:=int_keyed hk;have h':=h;obtain⟨es,ck,hb,F,hs,hD⟩:=h';have hap:=Maps.fit_apart KK F;rw[hD,size_eq,length_sorted]
 let g:Lit × DataW Value→Int:=λp=>match p.1 with |.int _ a=>a |_=>0
 have hg:∀p∈es.toList.map (Go.WideElems.rg Tryz.prog k kJ),∃a,p.1=.int q a∧(Lit.int q a).wf=true∧g p=a:=λp hp=>by
  obtain⟨x,hx,rfl⟩:=List.mem_map.1 hp;obtain⟨y,hy⟩:=F.reads x hx;rw[Go.WideElems.rg_of hy];have h1:=Go.WideElems.rd_key hy;rw[keyOf_int hk] at h1
  cases hv:x.key with
  |int q' a=>
   rw[hv] at h1;simp only[mapKey,hk] at h1
   split at h1
   ·rename_i c;have:=(Option.some.inj h1).symm;exact⟨a,this,c.2,by show(match y.1 with |.int _ a=>a |_=>0)=a;rw[this]⟩
   ·cases h1
  |_=>rw[hv] at h1;simp[mapKey,hk] at h1
 have hlen:(es.toList.map (Go.WideElems.rg Tryz.prog k kJ)).length=((es.toList.map (Go.WideElems.rg Tryz.prog k kJ)).map g).length:=by rw[List.length_map (f:=g)]
 rw[hlen];refine zI ?_ λx hx=>?_
 ·refine List.pairwise_map.2 (hap.imp_of_mem fun{p p'} hp hp' hne e=>hne ?_);obtain⟨a,h1,_,h2⟩:=hg p hp;obtain⟨a',h1',_,h2'⟩:=hg p' hp';rw[h1,h1',←h2,←h2',e]
 ·obtain⟨p,hp,rfl⟩:=List.mem_map.1 hx;obtain⟨a,h1,h2,h3⟩:=hg p hp;rw[h3];refine hK a h2 ?_;rw[hD];refine List.any_eq_true.2 ⟨p,mem_sorted.2 hp,?_⟩;rw[h1];exact WideAt.sameKey_self (KK.key (keyOf_int_mk hk h2))
theorem eO.upd (h:eO w k q b M) (hk:Tryz.prog.underlying k=some (.int q)) (ht:Tryz.prog.underlying t=some (.map k e)) {x:Int} (hx:(Lit.int q x).wf=true) {K:List Int} (hK:∀x y,M x=some y→x∈K) (hl:K.length<maxLen) (v:Value):
  ∃w',(Instr.mapUpdate t (.map (some b)) (.int q x) v).run Tryz.prog w=.ok () w'∧eO w' k q b (fG M x (some v))∧Bo [b] [b] w w':=by
 obtain⟨n,D,h1,h3⟩:=h.ex;have KK:=int_keyed hk;have hkey:=keyOf_int_mk hk hx
 have hsz:=eO.size_le hk h1 (K:=K) λy hy hh=>by
  rw[(h3 y hy).1] at hh;obtain⟨z,hz⟩:=Option.isSome_iff_exists.1 hh;exact hK y z hz
 obtain⟨w',hrun,hown,hg⟩:=(eO.tight h1).update KK ht om hkey (val:=v) rfl;refine⟨w',hrun,⟨⟨_,_,hown,λy hy=>?_⟩,λy z hz=>?_⟩,⟨⟨hg.os,hg.tape,hg.output,hg.size,λj hj hn=>hg.block j hj λc=>hn (by simpa using c)⟩,λ_ hj=>.inl hj⟩⟩
 ·unfold fG
  by_cases c:y=x
  ·subst c;rw[if_pos rfl];refine⟨has_true_of_atKey (λz=>atKey_put_same h1.isMap (KK.key hkey) _ z),λv' hv' z=>?_⟩;rw[←Option.some.inj hv'];exact atKey_put_same h1.isMap (KK.key hkey) _ z
  ·rw[if_neg c];have hne:(Lit.int q y)≠.int q x:=λe=>c (by cases e;rfl);refine⟨?_,λv' hv' z=>by rw[atKey_put_other hne];exact(h3 y hy).2 v' hv' z⟩;rw[has_put_other hne];exact(h3 y hy).1
 ·unfold fG at hz
  by_cases c:y=x
  ·rw[c];exact hx
  ·rw[if_neg c] at hz;exact h.wf y z hz
theorem eO.del (h:eO w k q b M) (hk:Tryz.prog.underlying k=some (.int q)) (ht:Tryz.prog.underlying t=some (.map k e)) {x:Int} (hx:(Lit.int q x).wf=true) (ty:TypeId):
  ∃w',(Builtin.delete_ #[t,k] ty #[.map (some b),.int q x]).run Tryz.prog w=.ok (.tuple #[]) w'∧eO w' k q b (fG M x none)∧Bo [b] [b] w w':=by
 obtain⟨n,D,h1,h3⟩:=h.ex;have KK:=int_keyed hk;have hkey:=keyOf_int_mk hk hx;have h1':=h1;obtain⟨es,ck,hb,F,hs,hD⟩:=h1';obtain⟨es',hrun,F',hle,hdel,_⟩:=Maps.fit_drop (ty:=ty) KK ht hb F hkey;refine⟨_,hrun,⟨⟨n,D.del (.int q x),⟨es',ck,Go.ChangeMaps.heap_setBlock_same hb _,F',Nat.le_trans hle hs,by rw[hD,DataW.del_eq,hdel]⟩,λy hy=>?_⟩,λy z hz=>?_⟩,⟨⟨rfl,rfl,rfl,by simp[Go.ChangeMaps.setBlock],λj hj hn=>Go.ChangeMaps.heap_setBlock_other hb _ (by simpa using hn)⟩,λ_ hj=>.inl hj⟩⟩
 ·unfold fG
  by_cases c:y=x
  ·subst c;rw[if_pos rfl];exact⟨has_false_of_atKey (λz=>atKey_del_same z),λv' hv'=>by cases hv'⟩
  ·rw[if_neg c];have hne:(Lit.int q y)≠.int q x:=λe=>c (by cases e;rfl);refine⟨?_,λv' hv' z=>by rw[atKey_del_other hne];exact(h3 y hy).2 v' hv' z⟩;rw[has_del_other hne];exact(h3 y hy).1
 ·unfold fG at hz
  by_cases c:y=x
  ·rw[if_pos c] at hz;cases hz
  ·rw[if_neg c] at hz;exact h.wf y z hz
end
end
end Go.Proofs.YtpaeogglppampaaGreatDoor
