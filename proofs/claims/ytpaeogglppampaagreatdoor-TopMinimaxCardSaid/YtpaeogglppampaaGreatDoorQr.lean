/- Lemmas of the proof. Conditions: as each one states. -/
import Derived.Test.YtpaeogglppampaaGreatDoorQm
import Derived.Shelf.RegionOpenPlain
import Derived.Deep.RegionLaw
import Derived.Lib.SliceRun
set_option maxRecDepth 100000
set_option maxHeartbeats 16000000
namespace Go.Proofs.YtpaeogglppampaaGreatDoor
open Go.RowKit
section
variable {w:World} {g cap k:Nat} {l:List Nat}
theorem FH (h:w.ownsRow 0 3 1 (.slice (some ⟨g,0,none⟩) l.length cap) l.length ((bH l).map (Value.int .i64))) (hk:k∈l) (hl:l.length≤65536) (hb:∀x∈l,x≤65536):
  Calls Tryz.prog 58 #[.slice (some ⟨g,0,none⟩) l.length cap,.int .i64 (k:Nat)] w λe w'=>∃p,e=.returned (.int .i64 (p:Nat))∧p<l.length∧l.getD p 0=k∧w'=w:=by
 obtain⟨n,hn⟩:=nE l.length;have HC:=jh (λp (hp:p<n)=>(lG h (sK (l:=l) (i:=p) om)).1);have HK:=jh (And.intro hk hb);rw[hn] at hl⊢;have HN:=jh hn;clear h hk hn hb;go_in;go_wp2
 go_loopg [8] n (λM iv wr=>∃i,M+i=n∧iv=.int .i64 i∧wr=w∧Hid (∀p<i,l.getD p 0≠k))
 case atStart=>exact⟨0,rfl,rfl,rfl,jh λp hp=>absurd hp (Nat.not_lt_zero _)⟩
 case round=>
  obtain⟨i,hM,rfl,rfl,HI⟩:=hrel
  by_cases c0:i<n
  ·have d0:decide ((i:Int)<n)=true:=dP om;have bi:(0:Int)≤i∧(i:Int)<n:=om;obtain⟨i1,hi1⟩:=nE (i+1);have wi:(i:Int)+1=(i1:Int):=om;have bi1:(0:Int)≤i1∧(i1:Int)≤65536:=om;have cc:=HC.out i c0;obtain⟨x,hx⟩:=nE (l.getD i 0);rw[hx] at cc;have HX:=jh hx;have HI1:=jh hi1;clear hx hi1
   by_cases ck:k=x
   ·have e1:((k:Int)==(x:Int))=true:=by simp[ck]
    have e2:(k==x)=true:=by simp[ck]
    have e3:decide ((k:Int)=x)=true:=dP om;have HCk:=jh ck;clear ck;go_wp2;go_ret;exact⟨i,rfl,c0,HX.out.trans HCk.out.symm,rfl⟩
   ·have e1:((k:Int)==(x:Int))=false:=by simp;omega
    have e2:(k==x)=false:=by simp[ck]
    have e3:decide ((k:Int)=x)=false:=dF om;have HCk:=jh ck;clear ck;go_wp2
    go_roundg (n-i1)
    case measure=>have:=HI1.out;omega
    case rel=>exact⟨i1,oC HI1.out,rfl,rfl,jh λp hp=>by
     by_cases c:p=i
     ·rw[c,HX.out];exact λe=>HCk.out e.symm
     ·exact HI.out p (oC HI1.out)⟩
  ·exfalso;obtain⟨p,hp,e⟩:=List.mem_iff_getElem.1 HK.out.1;have h1:=HN.out;exact HI.out p om (by rw[List.getD_eq_getElem?_getD,List.getElem?_eq_getElem hp];exact e)
end
theorem FL (w:World) (t e ty:TypeId) (z:Value) (ht:Tryz.prog.underlying t=some (.slice e)) (hv:∀w,(zeroValue e).run Tryz.prog w=.ok z w) (cs:List Value) (hz:(Builtin.zeroCells z.cells 1).toList=cs) (h1:∀v∈cs,v.oneCell'=true) (b o c:Nat)
  (hc:∀j<cs.length,(w.cell? ⟨b,o+j,none⟩).isSome=true) (hf:∀j<cs.length,w.frozen? ⟨b,o+j,none⟩=false):
  (Builtin.clear_ #[t] ty #[.slice (some ⟨b,o,none⟩) 1 c]).run Tryz.prog w=.ok (.tuple #[]) (w.setCells b o cs):=by
 have hst:=run_storeCells_cells (P:=Tryz.prog) b o cs 0 w (by simpa using hc) (by simpa using hf) h1;simp only[Nat.add_zero] at hst;simp[Builtin.clear_,run_underlying ht,hv,hz,hst]
def yN (xs:List Value):Nat→List Value→List Value
 |_,[]=>xs
 |o,v::r=>yN (xs.set o v) (o+1) r
theorem vT:∀(vs xs:List Value) (o q:Nat),o+vs.length≤xs.length→(yN xs o vs)[q]?=if o≤q∧q<o+vs.length then vs[q-o]? else xs[q]?
 |[],xs,o,q,_=>by rw[if_neg (by rw[List.length_nil];omega)];rfl
 |v::r,xs,o,q,h=>by
  show(yN (xs.set o v) (o+1) r)[q]?=_;rw[vT r (xs.set o v) (o+1) q (by simp only[List.length_set,List.length_cons] at h⊢;omega)];simp only[List.length_cons] at h⊢
  by_cases c:q=o
  ·subst c;rw[if_neg om,if_pos om,List.getElem?_set_self om,Nat.sub_self];rfl
  ·by_cases c2:o+1≤q∧q<o+1+r.length
   ·rw[if_pos c2,if_pos om,show q-o=(q-(o+1))+1 by omega,List.getElem?_cons_succ]
   ·rw[if_neg c2,if_neg om,List.getElem?_set_ne (λe=>c e.symm)]
theorem mg {base n cap g:Nat} {e:TypeId}:∀(vs:List Value) (o:Nat) {w:World} {xs:List Value},w.ownsRow base e 1 (.slice (some ⟨g,0,none⟩) n cap) n xs→(w.setCells g o vs).ownsRow base e 1 (.slice (some ⟨g,0,none⟩) n cap) n (yN xs o vs)
 |[],_,_,_,h=>h
 |v::r,o,_,_,h=>mg r (o+1) (AZ h (i:=o) v)
section
variable {w:World} {g cap:Nat} {l:List Nat}
theorem Dl (h:w.ownsRow 0 3 1 (.slice (some ⟨g,0,none⟩) l.length cap) l.length ((bH l).map (Value.int .i64))) {i j:Nat} (hi:i<l.length) (hj:j=i+1):
  Calls Tryz.prog 59 #[.slice (some ⟨g,0,none⟩) l.length cap,.int .i64 (i:Nat),.int .i64 (j:Nat)] w λe w'=>e=.returned (.slice (some ⟨g,0,none⟩) (l.eraseIdx i).length cap)∧
   w'.ownsRow 0 3 1 (.slice (some ⟨g,0,none⟩) (l.eraseIdx i).length cap) (l.eraseIdx i).length ((bH (l.eraseIdx i)).map (Value.int .i64))∧Off [g] w w':=by
 have hcell:∀t<l.length,w.cell? ⟨g,t,none⟩=some (.int .i64 (l.getD t 0:Nat))∧w.frozen? ⟨g,t,none⟩=false:=λt ht=>lG h (sK ht)
 have hnc:l.length≤cap:=by
  rcases h.2 with⟨h0,_⟩ |⟨g',cap',cur,h1,hb,hg,hn,hm,hs,ht⟩
  ·cases h0
  ·cases h1;exact hn
 have hlt:g<w.heap.size:=aN h rfl
 have hfz:∀t,w.frozen? ⟨g,t,none⟩=false:=λt=>by
  rcases h.2 with⟨h0,_⟩ |⟨g',cap',cur,h1,hb,hg,hn,hm,hs,ht⟩
  ·cases h0
  ·cases h1;simp[World.frozen?,hg]
 obtain⟨n,hn⟩:=nE l.length;obtain⟨xs,hxs⟩:=nE ((bH l).map (Value.int .i64))
 have hxl:xs.length=n:=by rw[←hxs,←hn];simp[bH]
 have hxa:∀t<n,xs[t]?=some (.int .i64 (l.getD t 0:Nat)):=λt ht=>by rw[←hxs];exact sK om
 rw[hn,hxs] at h;rw[hn] at hcell hnc hi⊢;obtain⟨news,hnews⟩:=nG (xs.drop j)
 have hlen:news.length=n-j:=by rw[hnews,List.length_drop,hxl]
 obtain⟨A,hA,hsrc⟩:∃A:Addr,(if cap=j then some (⟨g,0,none⟩:Addr) else some ⟨g,j,none⟩)=some A∧Hid (∀t u,news[t]?=some u→w.drew.cell? (A.add t)=some u):=by
  by_cases hc:cap=j
  ·refine⟨⟨g,0,none⟩,by simp[hc],λt u hu=>?_⟩
   have h0:news.length=0:=by rw[hlen];omega
   rw[List.length_eq_zero_iff.1 h0] at hu;simp at hu
  ·refine⟨⟨g,j,none⟩,by simp[hc],λt u hu=>?_⟩
   have ht:t<n-j:=by
    have:=(List.getElem?_eq_some_iff.1 hu).1
    rwa [hlen] at this
   have h1:=(hcell (j+t) om).1;rw[hnews,List.getElem?_drop,hxa (j+t) om] at hu;cases hu;rw[Addr.add_lit];exact h1
 have s1:Hid (news.length=(n-j)*1):=by rw[Nat.mul_one];exact hlen
 have s2:Hid (∀u∈news,u.oneCell'=true):=λu hu=>by
  rw[hnews] at hu;obtain⟨t,ht,rfl⟩:=List.mem_iff_getElem.1 (List.mem_of_mem_drop hu);have:=hxa t om;rw[List.getElem?_eq_getElem ht] at this;rw[Option.some.inj this];rfl
 have s3:Hid (∀t<news.length,(w.drew.cell? ⟨g,0+i*1+t,none⟩).isSome=true∧w.drew.frozen? ⟨g,0+i*1+t,none⟩=false):=λt ht=>by
  rw[hlen] at ht;obtain⟨h1,h2⟩:=hcell (i+t) om;rw[Nat.zero_add,Nat.mul_one];refine⟨?_,h2⟩;show(w.cell? _).isSome=true;rw[h1];rfl
 obtain⟨W1,hW1⟩:=nG (w.drew.setCells g (0+i*1) news);have hW:Hid (W1=w.drew.setCells g (0+i*1) news):=hW1
 have hW0:W1=w.drew.setCells g i news:=by rw[hW1,Nat.zero_add,Nat.mul_one]
 have r1:W1.ownsRow 0 3 1 (.slice (some ⟨g,0,none⟩) n cap) n (yN xs i news):=by
  rw[hW0];exact mg news i (aG (w':=w.drew) h λ_ _=>rfl)
 have hpl:(yN xs i news).length=n:=r1.1.trans om
 have hc1:∀t<n,(W1.cell? ⟨g,t,none⟩).isSome=true:=λt ht=>by
  rw[(lG r1 (List.getElem?_eq_getElem om)).1];rfl
 have hf1:∀t,W1.frozen? ⟨g,t,none⟩=false:=λt=>by
  rw[hW0,World.frozen?_setCells];exact hfz t
 have NV:∀w,(zeroValue 3).run Tryz.prog w=.ok (.int .i64 0) w:=λw=>by kernel_rfl
 have hcl:∀ty,(Builtin.clear_ #[62] ty #[.slice (some ⟨g,i+(n-j),none⟩) (n-(i+(n-j))) (cap-(i+(n-j)))]).run Tryz.prog W1=.ok (.tuple #[]) (W1.setCells g (i+(n-j)) [.int .i64 0]):=λty=>by
  have e:n-(i+(n-j))=1:=om;rw[e];refine FL W1 _ _ ty _ Tryz.underlying62 NV _ (by kernel_rfl) (by simp[Value.oneCell']) g _ _ (λq hq=>hc1 _ ?_) (λq _=>hf1 _);simp only[List.length_cons,List.length_nil] at hq;omega
 have HF:Hid ((W1.setCells g (i+(n-j)) [.int .i64 0]).ownsRow 0 3 1 (.slice (some ⟨g,0,none⟩) (l.eraseIdx i).length cap) (l.eraseIdx i).length ((bH (l.eraseIdx i)).map (Value.int .i64))∧Off [g] w (W1.setCells g (i+(n-j)) [.int .i64 0])):=by
  have hel:(l.eraseIdx i).length=n-1:=by rw[List.length_eraseIdx,if_pos om,hn]
  refine⟨?_,?_⟩
  ·have r2:=zF (m:=n-1) (mg [.int .i64 0] (i+(n-j)) r1) om;rw[Nat.mul_one] at r2;rw[hel]
   have e:((bH (l.eraseIdx i)).map (Value.int .i64))=(yN (yN xs i news) (i+(n-j)) [.int .i64 0]).take (n-1):=by
    refine List.ext_getElem? λq=>?_
    by_cases hq:q<n-1
    ·rw[sK om,List.getElem?_take,if_pos hq,vT _ _ _ _ (by rw[hpl];simp;omega),if_neg (by simp;omega),vT _ _ _ _ (by rw[hxl,hlen];omega),hlen];rw[List.getD_eq_getElem?_getD,List.getElem?_eraseIdx]
     by_cases c:q<i
     ·rw[if_pos c,if_neg om,hxa q om,List.getD_eq_getElem?_getD]
     ·rw[if_neg c,if_pos om,hnews,List.getElem?_drop,show j+(q-i)=q+1 by omega,hxa (q+1) om,List.getD_eq_getElem?_getD]
    ·rw[List.getElem?_eq_none (by simp[bH];omega),List.getElem?_eq_none (by rw[List.length_take];omega)]
   rw[e];exact r2
  ·have off:∀(vs:List Value) (o:Nat) (W:World),Off [g] w W→Off [g] w (W.setCells g o vs):=λvs=>by
    induction vs with
    |nil=>exact λ_ _ h=>h
    |cons v r ih=>exact λo W h=>ih (o+1) _ (h.setCell (p:=⟨g,o,none⟩) sj v)
   rw[hW0];exact off _ _ _ (off _ _ _ (Off.refl _ _).drew)
 have hed:(l.eraseIdx i).length=i+(n-j):=by rw[List.length_eraseIdx,if_pos om,hn];omega
 have HED:=jh hed
 have mixed:Tryz.prog.follows Departure.mixedOrders=true:=by kernel_rfl
 have hij:i≠j:=om;have hil:i≤j:=om
 have aoy:((i:Int)==j)=false:=by simp;omega
 have hic:i≤cap:=om;have hjc:j≤cap:=om;have hjn:j≤n:=om;obtain⟨i0,z0,hi0,hz0,hz1,hz2,hz3⟩:=Cw.info;clear hW1 hW0 hnews hlen hcell hfz h hj hc1 hf1 hlt r1 hpl hxs hxl hxa NV hed hn;go_in;go_wp2
 go_region_law_o (refine step_append_room rfl (.tmp 22) (.tmp 25) 62 rfl 3 i0 1 Tryz.underlying62 hi0 hz1 g 0 i cap (by simp[Act.eval,Act.put]) A (n-j) (cap-j) news (by simp[Act.eval,Act.put]) s1.out hsrc.out s2.out om s3.out ?_;rw[←hW.out])
 go_wp2
 go_ret;exact⟨by rw[HED.out];rfl,HF.out⟩
end
end Go.Proofs.YtpaeogglppampaaGreatDoor
