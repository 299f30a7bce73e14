/- Lemmas of the proof. Conditions: as each one states. -/
import Derived.Test.YtpaeogglppampaaGreatQE
import Derived.Test.YtpaeogglppampaaGreatQI
set_option maxRecDepth 100000
set_option maxHeartbeats 16000000
namespace Go.Proofs.YtpaeogglppampaaGreat
open Go.RowKit
def YA (l:List Rc) (i j:Nat):Value:=if j=0 then .int .u64 (l.getD i qU).u else if j=1 then .int .u64 (l.getD i qU).v else if j=2 then .int .i64 (l.getD i qU).w else .int .i64 (l.getD i qU).t
abbrev RS (w:World) (B:Nat) (v:Value) (l:List Rc) (A:Nat→Addr):Prop:=Rd 41 4 w B v l.length (YA l) A
theorem Bn {w:World} {base size n:Nat} {e:TypeId} {v:Value} {xs:List Value} (h:w.ownsRow base e size v n xs) {g:Nat} (hg:v.ownBlock=some g):base≤g:=by
 rcases h.2 with⟨e1,_⟩ |⟨g',cap,cur,e1,hb,_⟩
 ·rw[e1] at hg;cases hg
 ·rw[e1] at hg
  have:g'=g:=by simpa [Value.ownBlock] using hg
  omega
theorem jW {w wr w5:World} {base n sz:Nat} {e:TypeId} {v:Value} {xs:List Value} (o:Off [] w wr) (h:wr.ownsRow base e sz v n xs) (hb:w.heap.size≤base) (hg:wr.grownBy w5 v.ownBlock):Off [] w w5:=
 ⟨hg.os.trans o.os,hg.tape.trans o.tape,hg.output.trans o.output,Nat.le_trans o.size hg.size,λq hq _=>(hg.block q (Nat.lt_of_lt_of_le hq o.size) λe=>oC (Bn h e.symm)).trans (o.block q hq sj)⟩
theorem vY {base:Nat} {v:Value} {l:List Int} {w:World} (h:bE base v l w):∃a cap A,v=.slice a l.length cap∧Rd 46 1 w w.heap.size (.slice a l.length cap) l.length (nums .u64 l) A:=by
 have h1:w.ownsRow base 25 1 v l.length (flat (nums .u64 l) l.length 1):=by rw[Ae];exact h
 obtain⟨a,cap,A,e1,e2⟩:=Rd.own sQ h1;subst e1;exact⟨a,cap,A,rfl,e2⟩
theorem wX (l:List Int) (i:Nat):nth l i=l.getD i 0:=rfl
section
variable {w:World} {base:Nat} {v:Value} {out:List Int}
theorem iT (h:bE base v out w) (hl:out.length≤1000000) (x:Int):
  Calls Tryz.prog 13 #[v,.int .u64 x] w λe w'=>e=.returned (.bool (decide (x∈out)))∧w'=w:=by
 obtain⟨a,cap,A,rfl,hr⟩:=vY h;have HR:=jh hr;obtain⟨n,hn⟩:=nE out.length;have HN:=jh hn;rw[hn] at hl⊢;clear h hr hn;go_in;go_wp2
 go_loopw [5] (λi wr=>∃q:Nat,q≤n∧i=.int .i64 q∧wr=w∧Hid (∀j<q,out.getD j 0≠x)) (λi _=>n-(intOf i).toNat)
 case atStart=>exact⟨0,Nat.zero_le _,rfl,rfl,jh λj hj=>om⟩
 case round=>
  obtain⟨q,hq,rfl,rfl,HJ⟩:=hrel
  by_cases hlt:q<n
  ·have hlt2:q<out.length:=by rw[HN.out];exact hlt
   have i0:=HR.out.ix q hlt2;have c0:=HR.out.cell q hlt2 0 om;rw[HN.out] at i0;rw[add_zero] at c0;obtain⟨y,hy⟩:=nE (out.getD q 0);unfold nums at c0;rw[wX,hy] at c0;have HY:=jh hy;have hqi:(0:Int)≤q∧(q:Int)<n:=om;clear hy hlt2
   by_cases hxy:y=x
   ·have hz:decide (y=x)=true:=dP hxy
    have hz2:(y==x)=true:=by simpa using hxy
    have HX:=jh hxy;clear hxy;go_wp2;go_ret;refine⟨?_,rfl⟩
    have hm:x∈out:=by
     rw[←HX.out,←HY.out,List.getD_eq_getElem?_getD,List.getElem?_eq_getElem (by rw[HN.out];exact hlt)];exact List.getElem_mem _
    rw[dP hm];rfl
   ·have hz:decide (y=x)=false:=dF hxy
    have hz2:(y==x)=false:=by simpa using hxy
    have HX:=jh hxy;clear hxy;go_wp2;go_roundw
    case rel=>exact⟨q+1,om,by go_num,sj,jh λj hj=>by
     rcases Nat.lt_or_ge j q with c |c
     ·exact HJ.out j c
     ·rw[show j=q by omega,HY.out];exact HX.out⟩
    case measure=>simp only[intOf];omega
  ·obtain rfl:q=n:=om
   have hm:x∉out:=λhx=>by
    obtain⟨j,hj,e⟩:=List.mem_iff_getElem.1 hx;refine HJ.out j (by rw[←HN.out];exact hj) ?_;rw[List.getD_eq_getElem?_getD,List.getElem?_eq_getElem hj];exact e
   have HM:=jh (dF hm);clear hm;go_wp2;go_ret;exact⟨by rw[HM.out];rfl,rfl⟩
end
section
variable {w:World} {B:Nat} {a:Option Addr} {cap:Nat} {A:Nat→Addr} {l:List Rc}
theorem Ba (h:RS w B (.slice a l.length cap) l A) {i:Nat} (hi:i<l.length):w.cell? (A i)=some (.int .u64 (l.getD i qU).u)∧w.cell? ⟨(A i).block,(A i).off+1,none⟩=some (.int .u64 (l.getD i qU).v)∧w.cell? ⟨(A i).block,(A i).off+2,none⟩=some (.int .i64 (l.getD i qU).w)∧w.cell? ⟨(A i).block,(A i).off+3,none⟩=some (.int .i64 (l.getD i qU).t):=by
 refine⟨?_,h.cell i hi 1 om,h.cell i hi 2 om,h.cell i hi 3 om⟩;have:=h.cell i hi 0 om
 rwa [add_zero] at this
theorem jF {q:Nat} (h:q<l.length):l.take (q+1)=l.take q++[l.getD q qU]:=by
 rw[List.take_succ_eq_append_getElem h,List.getD_eq_getElem?_getD,List.getElem?_eq_getElem h];rfl
theorem lN (out:List Int) (x:Int):(gJ out x).length≤out.length+1:=by
 unfold gJ;split<;>simp
theorem Rx (l:List Rc):∀out:List Int,(l.foldl (λout r=>gJ (gJ out r.u) r.v) out).length≤out.length+2*l.length:=by
 induction l with
 |nil=>intro out;simp
 |cons r l ih=>
  intro out;have h1:=ih (gJ (gJ out r.u) r.v);have h2:=lN (gJ out r.u) r.v;have h3:=lN out r.u;simp only[List.foldl_cons,List.length_cons];omega
theorem MR (l:List Rc) (r:Rc):gW (l++[r])=gJ (gJ (gW l) r.u) r.v:=by unfold gW;rw[List.foldl_append];rfl
theorem Ka (l:List Rc):(gW l).length≤2*l.length:=by have:=Rx l [];unfold gW;simpa using this
theorem WR (h:RS w B (.slice a l.length cap) l A) (hB:B≤w.heap.size) (hl:l.length≤16384):
  Calls Tryz.prog 11 #[.slice a l.length cap] w λe w'=>∃v,e=.returned v∧bE w.heap.size v (gW l) w'∧Off [] w w':=by
 have HR:=jh h;obtain⟨n,hn⟩:=nE l.length;have HN:=jh hn;rw[hn] at hl⊢;clear h hn;go_in;go_wp2
 go_loopw [3,4] (λv i wr=>∃q:Nat,q≤n∧i=.int .i64 q∧Hid (bE w.heap.size v (gW (l.take q)) wr)∧Hid (Off [] w wr)) (λ_ i _=>n-(intOf i).toNat)
 case atStart=>exact⟨0,Nat.zero_le _,rfl,jh (World.ownsRow_nil _ _ _ _),jh (Off.refl _ _)⟩
 case round=>
  obtain⟨q,hq,rfl,HV,HO⟩:=hrel
  by_cases hlt:q<n
  ·have hlt2:q<l.length:=by rw[HN.out];exact hlt
   have hr:=HR.out.below (HO.out.below hB sj);have i0:=hr.ix q hlt2;obtain⟨c0,c1,_,_⟩:=Ba hr hlt2;rw[HN.out] at i0;obtain⟨u,hu⟩:=nE ((l.getD q qU).u);obtain⟨v,hv⟩:=nE ((l.getD q qU).v);rw[hu] at c0;rw[hv] at c1;obtain⟨out,hout⟩:=nE (gW (l.take q))
   have hol:out.length≤2*q:=by
    have:=Ka (l.take q);rw[hout,List.length_take] at this;omega
   have HT:=jh (show gW (l.take (q+1))=gJ (gJ out u) v by rw[jF hlt2,MR,hout,hu,hv]);rw[hout] at HV;have hqi:(0:Int)≤q∧(q:Int)<n:=om;have K5:=jh (iT HV.out om u);have HC1:=jh hv;clear hr hu hv hout hlt2;go_wp2_with fail;apply mO K5;rintro e wr ⟨rfl,rfl⟩;clear K5
   by_cases hu:u∈out
   ·have hz1:decide (u∈out)=true:=dP hu;have HA1:=jh (show gJ out u=out from if_pos hu);clear hu;have HK2:=jh (iT HV.out om v);go_wp2_with fail;apply mO HK2;rintro e wr ⟨rfl,rfl⟩
    by_cases hv:v∈out
    ·have hz2:decide (v∈out)=true:=dP hv;have HA2:=jh (show gJ out v=out from if_pos hv);clear hv;go_wp2;go_roundw
     case rel=>exact⟨q+1,om,by go_num,by rw[HT.out,HA1.out,HA2.out];exact HV,HO⟩
     case measure=>simp only[intOf];omega
    ·have hz2:decide (v∈out)=false:=dF hv;have HA2:=jh (show gJ out v=out++[v] from if_neg hv)
     have hln:(out.length+1)*8≤140737488355328:=by have:=lN out u;rw[HA1.out] at this;omega
     have jL:out.length+1≤9223372036854775807:=by have:=lN out u;rw[HA1.out] at this;omega
     have hsz:w.heap.size≤wr.heap.size:=HO.out.size;have hown:=HV.out;unfold bE at hown;clear hv
     go_wp2_with (at_builtin;refine push sQ rfl _ _ rfl w.heap.size _ _ _ hown rfl #[.int .u64 v] _ rfl rfl rfl (by simp[Value.oneCell']) hln jL hsz ?_;intro g6 Tf w6 hown6 EN hv6;refine Hid.out ?_)
     have Ug:=jh (show bE w.heap.size (.slice (some ⟨g6,0,none⟩) (out.length+1:Nat) Tf) (out++[v]) w6 by
      unfold bE iJ;rw[List.length_append,List.map_append];exact hown6)
     have nO:=jh (jW HO.out hown (Nat.le_refl _) EN);clear hown6 EN hv6 hown;refine jh ?_;go_wp2;go_roundw
     case rel=>exact⟨q+1,om,by go_num,by rw[HT.out,HA1.out,HA2.out];exact Ug,nO⟩
     case measure=>simp only[intOf];omega
   ·have hz1:decide (u∈out)=false:=dF hu;have HA1:=jh (show gJ out u=out++[u] from if_neg hu);have hown:=HV.out;unfold bE at hown;have aj3:(out.length+1)*8≤140737488355328:=om;have ae1:out.length+1≤9223372036854775807:=om;have hsz0:w.heap.size≤wr.heap.size:=HO.out.size;have hrl:=HR.out;clear hu
    go_wp2_with (at_builtin;refine push sQ rfl _ _ rfl w.heap.size _ _ _ hown rfl #[.int .u64 u] _ rfl rfl rfl (by simp[Value.oneCell']) aj3 ae1 hsz0 ?_;intro g5 cp5 w5 hown5 hg5 hv5;refine Hid.out ?_)
    have HV5:=jh (show bE w.heap.size (.slice (some ⟨g5,0,none⟩) (out.length+1:Nat) cp5) (out++[u]) w5 by
     unfold bE iJ;rw[List.length_append,List.map_append];exact hown5)
    have hle1:(out++[u]).length≤out.length+1:=sj;have mQ:=jh (jW HO.out hown (Nat.le_refl _) hg5);have RN:=HR.out.below (mQ.out.below hB sj);have c15:=(Ba RN (i:=q) (by rw[HN.out];exact hlt)).2.1;have HVv:=jh HV;clear hown5 hg5 hv5 hown RN hrl c0;refine jh ?_;obtain⟨wV,ho1⟩:=nE (out++[u]);rw[ho1] at HA1 HV5 hle1;have alV:=jh hle1;clear hle1 ho1;rw[HC1.out] at c15;have HK2:=jh (iT HV5.out (oC alV.out) v);go_wp2_with fail;apply mO HK2;rintro e w5 ⟨rfl,rfl⟩
    by_cases hv:v∈wV
    ·have hz2:decide (v∈wV)=true:=dP hv;have HA2:=jh (show gJ wV v=wV from if_pos hv);clear hv;go_wp2;go_roundw
     case rel=>exact⟨q+1,om,by go_num,by rw[HT.out,HA1.out,HA2.out];exact HV5,mQ⟩
     case measure=>simp only[intOf];omega
    ·have hz2:decide (v∈wV)=false:=dF hv;have HA2:=jh (show gJ wV v=wV++[v] from if_neg hv)
     have hln:(wV.length+1)*8≤140737488355328:=by have:=lN out u;rw[HA1.out] at this;omega
     have jL:wV.length+1≤9223372036854775807:=by have:=lN out u;rw[HA1.out] at this;omega
     have hsz:w.heap.size≤w5.heap.size:=mQ.out.size;have hown:=HV5.out;unfold bE at hown;clear hv
     go_wp2_with (at_builtin;refine push sQ rfl _ _ rfl w.heap.size _ _ _ hown rfl #[.int .u64 v] _ rfl rfl rfl (by simp[Value.oneCell']) hln jL hsz ?_;intro g6 Tf w6 hown6 EN hv6;refine Hid.out ?_)
     have Ug:=jh (show bE w.heap.size (.slice (some ⟨g6,0,none⟩) (wV.length+1:Nat) Tf) (wV++[v]) w6 by
      unfold bE iJ;rw[List.length_append,List.map_append];exact hown6)
     have nO:=jh (jW mQ.out hown (Nat.le_refl _) EN);clear hown6 EN hv6 hown;refine jh ?_;go_wp2;go_roundw
     case rel=>exact⟨q+1,om,by go_num,by rw[HT.out,HA1.out,HA2.out];exact Ug,nO⟩
     case measure=>simp only[intOf];omega
  ·obtain rfl:q=n:=om;have hV:=HV.out;rw[←HN.out,List.take_length] at hV;have N8:=jh hV;clear hV HV;go_wp2;go_ret;exact⟨_,rfl,N8.out,HO.out⟩
theorem Er (θ:Int) (l:List Rc) (r:Rc):bL (l++[r]) θ=if r.w≤θ then bL l θ++[r] else bL l θ:=by
 unfold bL;rw[List.filter_append]
 by_cases h:r.w≤θ<;>simp[h]
theorem DZ (l:List Rc) (r:Rc):flat (YA (l++[r])) (l.length+1) 4=flat (YA l) l.length 4++#[Value.int .u64 r.u,.int .u64 r.v,.int .i64 r.w,.int .i64 r.t].toList:=by
 rw[fM]
 have h1:flat (YA (l++[r])) l.length 4=flat (YA l) l.length 4:=by
  unfold flat;rw[List.flatMap_def,List.flatMap_def];refine congrArg List.flatten (List.map_congr_left λi hi=>?_);have hi:=List.mem_range.1 hi;refine List.map_congr_left λj _=>?_;unfold YA;rw[List.getD_eq_getElem?_getD,List.getElem?_append_left hi,←List.getD_eq_getElem?_getD]
 rw[h1]
 congr 1
 simp[List.range_succ,YA]
theorem Tryz.WL:(Tryz.prog.info? 36).map (λi=>(i.zero,i.size,i.bytes))=some (some (.agg #[.int .u64 0,.int .u64 0,.int .i64 0,.int .i64 0]),4,32):=by kernel_rfl
theorem SF:ET 41 36 4 32:=ET.of Tryz.underlying41 Tryz.WL rfl (by decide)
def lQ (base:Nat) (v:Value) (l:List Rc) (w:World):Prop:=w.ownsRow base 36 4 v l.length (flat (YA l) l.length 4)
theorem wU {base:Nat} {v:Value} {l:List Rc} {w:World} (h:lQ base v l w):∃a cap A,v=.slice a l.length cap∧RS w w.heap.size (.slice a l.length cap) l A:=by
 obtain⟨a,cap,A,e1,e2⟩:=Rd.own SF h;subst e1;exact⟨a,cap,A,rfl,e2⟩
theorem MF (h:RS w B (.slice a l.length cap) l A) (hB:B≤w.heap.size) (hl:l.length≤16384) (θ:Int):
  Calls Tryz.prog 15 #[.slice a l.length cap,.int .i64 θ] w λe w'=>∃v,e=.returned v∧lQ w.heap.size v (bL l θ) w'∧Off [] w w':=by
 have HR:=jh h;obtain⟨n,hn⟩:=nE l.length;have HN:=jh hn;rw[hn] at hl⊢;clear h hn;go_in;go_wp2
 go_loopw [5,6] (λv i wr=>∃q:Nat,q≤n∧i=.int .i64 q∧Hid (lQ w.heap.size v (bL (l.take q) θ) wr)∧Hid (Off [] w wr)) (λ_ i _=>n-(intOf i).toNat)
 case atStart=>exact⟨0,Nat.zero_le _,rfl,jh (World.ownsRow_nil _ _ _ _),jh (Off.refl _ _)⟩
 case round=>
  obtain⟨q,hq,rfl,HV,HO⟩:=hrel
  by_cases hlt:q<n
  ·have hlt2:q<l.length:=by rw[HN.out];exact hlt
   have hr:=HR.out.below (HO.out.below hB sj);have i0:=hr.ix q hlt2;obtain⟨c0,c1,c2,c3⟩:=Ba hr hlt2;rw[HN.out] at i0;obtain⟨r,hr0⟩:=nE (l.getD q qU);rw[hr0] at c0 c1 c2 c3;obtain⟨out,hout⟩:=nE (bL (l.take q) θ)
   have hol:out.length≤q:=by
    have:=List.length_filter_le (λr:Rc=>decide (r.w≤θ)) (l.take q);rw[←hout];unfold bL;rw[List.length_take] at this;omega
   have HT:=jh (show bL (l.take (q+1)) θ=if r.w≤θ then out++[r] else out by rw[jF hlt2,Er,hout,hr0]);rw[hout] at HV;have hqi:(0:Int)≤q∧(q:Int)<n:=om;clear hr hr0 hout hlt2
   by_cases hc:r.w≤θ
   ·have hz:decide (r.w≤θ)=true:=dP hc;have HT2:=jh (HT.out.trans (if_pos hc));have hown:=HV.out;unfold lQ at hown;have hln:(out.length+1)*32≤140737488355328:=om;have jL:out.length+1≤9223372036854775807:=om;have hsz:w.heap.size≤wr.heap.size:=HO.out.size;clear hc
    go_wp2_with (at_builtin;refine push SF rfl _ _ rfl w.heap.size _ _ _ hown rfl #[.int .u64 r.u,.int .u64 r.v,.int .i64 r.w,.int .i64 r.t] _ rfl rfl rfl (by simp[Value.oneCell']) hln jL hsz ?_;intro g6 Tf w6 hown6 EN hv6;refine Hid.out ?_)
    have Ug:=jh (show lQ w.heap.size (.slice (some ⟨g6,0,none⟩) (out.length+1:Nat) Tf) (out++[r]) w6 by
     unfold lQ;rw[List.length_append,List.length_singleton,DZ];exact hown6)
    have nO:=jh (jW HO.out hown (Nat.le_refl _) EN);clear hown6 EN hv6 hown;refine jh ?_;go_wp2;go_roundw
    case rel=>exact⟨q+1,om,by go_num,by rw[HT2.out];exact Ug,nO⟩
    case measure=>simp only[intOf];omega
   ·have hz:decide (r.w≤θ)=false:=dF hc;have HT2:=jh (HT.out.trans (if_neg hc));clear hc;go_wp2;go_roundw
    case rel=>exact⟨q+1,om,by go_num,by rw[HT2.out];exact HV,HO⟩
    case measure=>simp only[intOf];omega
  ·obtain rfl:q=n:=om;have hV:=HV.out;rw[←HN.out,List.take_length] at hV;have N8:=jh hV;clear hV HV;go_wp2;go_ret;exact⟨_,rfl,N8.out,HO.out⟩
theorem GQ {base:Nat} {v:Value} {L:List Int} (h:bE base v L w) (hl:L.length≤1000000) (h0:L≠[]):
  Calls Tryz.prog 16 #[v] w λe w'=>e=.returned (.int .u64 (xu L))∧w'=w:=by
 obtain⟨a,cap,A,rfl,hr⟩:=vY h;have HR:=jh hr;obtain⟨n,hn⟩:=nE L.length;have HN:=jh hn
 have hn0:0<n:=by rw[←hn];exact List.length_pos_iff.2 h0
 obtain⟨x0,L',hL⟩:∃x L',L=x::L':=by
  cases L with
  |nil=>exact absurd rfl h0
  |cons x L'=>exact⟨x,L',rfl⟩
 have HL:=jh hL
 have i00:∀w',(Instr.indexAt 46 (.slice a n cap) (.int .i64 0)).run Tryz.prog w'=.ok (.pointer (some (A 0))) w':=by
  have:=hr.ix 0 om;rw[hn] at this;exact this
 have c00:w.cell? (A 0)=some (.int .u64 x0):=by
  have:=hr.cell 0 om 0 om;rw[add_zero] at this;unfold nums at this;rw[wX,hL] at this;exact this
 rw[hn] at hl⊢;have hni:(0:Int)<n:=om;clear h hr hn h0 hL;go_in;go_wp2
 go_loopw [3,4] (λm i wr=>∃q:Nat,1≤q∧q≤n∧i=.int .i64 q∧wr=w∧m=.int .u64 ((L'.take (q-1)).foldl min x0)) (λ_ i _=>n-(intOf i).toNat)
 case atStart=>exact⟨1,om,om,rfl,rfl,rfl⟩
 case round=>
  clear i00 c00;obtain⟨q,hq1,hq,rfl,rfl,rfl⟩:=hrel
  by_cases hlt:q<n
  ·have hlt2:q<L.length:=by rw[HN.out];exact hlt
   have i0:=HR.out.ix q hlt2;have c0:=HR.out.cell q hlt2 0 om;rw[HN.out] at i0;rw[add_zero] at c0;obtain⟨y,hy⟩:=nE (L.getD q 0);unfold nums at c0;rw[wX,hy] at c0;obtain⟨m,hm⟩:=nE ((L'.take (q-1)).foldl min x0)
   have HF:=jh (show(L'.take (q+1-1)).foldl min x0=min m y by
    have hql:q-1<L'.length:=by have:=hlt2;rw[HL.out] at this;simp at this;omega
    have:q+1-1=(q-1)+1:=om;rw[this,List.take_succ_eq_append_getElem hql,List.foldl_append,hm]
    have h2:L'[q-1]=y:=by
     rw[←hy,HL.out];obtain⟨k,rfl⟩:∃k,q=k+1:=⟨q-1,om⟩;simp[List.getD] at hql⊢;simp[hql]
    rw[h2];rfl)
   have hqi:(0:Int)≤q∧(q:Int)<n:=om;rw[hm];clear hy hlt2 hm;go_wp2;go_roundw
   case rel=>exact⟨q+1,om,om,by go_num,sj,by rw[HF.out]⟩
   case measure=>simp only[intOf];omega
  ·obtain rfl:q=n:=om
   have HF:=jh (show(L'.take (q-1)).foldl min x0=xu L by
    rw[HL.out]
    have:q-1=L'.length:=by have:=HN.out;rw[HL.out] at this;simp at this;omega
    rw[this,List.take_length];rfl)
   go_wp2;go_ret;exact⟨by rw[←HF.out];rfl,rfl⟩
end
theorem Vy (out:List Int) (r:Rc):(Gm out r).length≤out.length+1:=by
 rcases lq out r with⟨e,_⟩ |⟨e,_⟩ |⟨e,_⟩<;>rw[e]<;>simp
theorem DY (m:List Rc):∀out:List Int,(jo m out).length≤out.length+m.length:=by
 induction m with
 |nil=>intro out;exact Nat.le_refl _
 |cons r m ih=>
  intro out;have h1:=ih (Gm out r);have h2:=Vy out r;unfold jo at h1⊢;simp only[List.foldl_cons,List.length_cons];omega
theorem JE (l:List Rc) (x:Int):∀k,(rF l x k).length≤1+k*l.length
 |0=>by simp[rF]
 |k+1=>by
  have h1:=JE l x k;have h2:=DY l (rF l x k);rw[Nat.add_mul,Nat.one_mul];show(jo l (rF l x k)).length≤_;omega
theorem Mc (m:List Rc) (r:Rc) (out:List Int):jo (m++[r]) out=Gm (jo m out) r:=by unfold jo;rw[List.foldl_append];rfl
section
variable {w:World} {B:Nat} {a:Option Addr} {cap:Nat} {A:Nat→Addr} {l:List Rc}
theorem VR (w:World) (x:Int):bE w.heap.size (.slice (some ⟨w.heap.size,0,none⟩) (1:Nat) 1) [x] (w.alloc (.cells #[.int .u64 x] 25)):=
 ⟨rfl,.inr ⟨w.heap.size,1,#[.int .u64 x],rfl,Nat.le_refl _,heap_alloc_new _ _,Nat.le_refl _,by unfold maxLen;omega,rfl,rfl⟩⟩
theorem Ma (h:RS w B (.slice a l.length cap) l A) (hB:B≤w.heap.size) (hl:l.length≤100) (x t:Int) (ht:∀r∈l,t≤r.t):
  Calls Tryz.prog 14 #[.slice a l.length cap,.int .u64 x,.int .i64 t] w λe w'=>∃v,e=.returned v∧bE w.heap.size v (fP l x) w'∧Off [] w w':=by
 have HR:=jh h;have HT:=jh ht;obtain⟨n,hn⟩:=nE l.length;have HN:=jh hn;have FI:=jh (VR w x);have HF0:=jh (show Off [] w (w.alloc (.cells #[.int .u64 x] 25)) from(Off.refl _ _).alloc _)
 have HLen:=jh (show ∀k≤n,(rF l x k).length≤10001 from λk hk=>by
  have h1:=JE l x k;have h2:k*l.length≤100*100:=Nat.mul_le_mul om hl
  omega)
 unfold fP;rw[hn] at hl⊢;clear h hn ht;go_in;go_wp2
 go_loopw [7,8] (λv i wr=>∃q:Nat,q≤n∧i=.int .i64 q∧Hid (bE w.heap.size v (rF l x q) wr)∧Hid (Off [] w wr)) (λ_ i _=>n-(intOf i).toNat)
 case atStart=>exact⟨0,Nat.zero_le _,rfl,FI,HF0⟩
 case round=>
  clear FI HF0;obtain⟨q,hq,rfl,HV,HO⟩:=hrel
  by_cases hlt:q<n
  ·obtain⟨Qx,RQ⟩:=nE (rF l x q);have HQ:=jh (show rF l x (q+1)=jo l Qx by rw[←RQ];rfl);have RY:=HLen.out q hq;rw[RQ] at HV RY;have HL0:=jh RY;have oP:=jh hlt;clear RQ RY;go_wp2_with fail;clear hlt
   go_loopw [7,9] (λv i wi=>∃p:Nat,p≤n∧i=.int .i64 p∧Hid (bE w.heap.size v (jo (l.take p) Qx) wi)∧Hid (Off [] w wi)) (λ_ i _=>n-(intOf i).toNat)
   case atStart=>exact⟨0,Nat.zero_le _,rfl,HV,HO⟩
   case round=>
    clear HV HO;obtain⟨p,hp,rfl,HV,HO⟩:=hrel
    by_cases hlt:p<n
    ·have hlt2:p<l.length:=by rw[HN.out];exact hlt
     have hr:=HR.out.below (HO.out.below hB sj);have i0:=hr.ix p hlt2;obtain⟨c0,c1,_,c3⟩:=Ba hr hlt2;rw[HN.out] at i0;have htt:=HT.out (l.getD p qU) (by rw[List.getD_eq_getElem?_getD,List.getElem?_eq_getElem hlt2];exact List.getElem_mem _);obtain⟨r,hr0⟩:=nE (l.getD p qU);rw[hr0] at c0 c1 c3 htt;obtain⟨u,hu⟩:=nE r.u;obtain⟨v,hv⟩:=nE r.v;obtain⟨out,hout⟩:=nE (jo (l.take p) Qx)
     have hol:out.length≤20000:=by
      have:=DY (l.take p) Qx;rw[hout,List.length_take] at this;have:=HL0.out;omega
     have HS:=jh (show jo (l.take (p+1)) Qx=if u∈out then(if v∈out then out else out++[v]) else(if v∈out then out++[u] else out) by rw[jF hlt2,Mc,hout,hr0,←hu,←hv];rfl);rw[hu] at c0;rw[hv] at c1;rw[hout] at HV;have ht2:decide (r.t<t)=false:=dF om;have hqi:(0:Int)≤p∧(p:Int)<n:=om;have K5:=jh (iT HV.out om u);clear hr hr0 hu hv hout hlt2 htt;go_wp2_with fail;apply mO K5;rintro e wi ⟨rfl,rfl⟩;have HK2:=jh (iT HV.out om v);clear K5;go_wp2_with fail;apply mO HK2;rintro e wi ⟨rfl,rfl⟩;clear HK2;have hln:(out.length+1)*8≤140737488355328:=om;have jL:out.length+1≤9223372036854775807:=om;have hsz:w.heap.size≤wi.heap.size:=HO.out.size;have hown:=HV.out;unfold bE at hown
     by_cases hu:u∈out
     ·have hz1:decide (u∈out)=true:=dP hu
      by_cases hv:v∈out
      ·have hz2:decide (v∈out)=true:=dP hv;have HS2:=jh (HS.out.trans ((if_pos hu).trans (if_pos hv)));clear hu hv;clear hown;go_wp2;go_roundw
       case rel=>exact⟨p+1,om,by go_num,by rw[HS2.out];exact HV,HO⟩
       case measure=>simp only[intOf];omega
      ·have hz2:decide (v∈out)=false:=dF hv;have HS2:=jh (HS.out.trans ((if_pos hu).trans (if_neg hv)));clear hu hv
       go_wp2_with (at_builtin;refine push sQ rfl _ _ rfl w.heap.size _ _ _ hown rfl #[.int .u64 v] _ rfl rfl rfl (by simp[Value.oneCell']) hln jL hsz ?_;intro g6 Tf w6 hown6 EN hv6;refine Hid.out ?_)
       have Ug:=jh (show bE w.heap.size (.slice (some ⟨g6,0,none⟩) (out.length+1:Nat) Tf) (out++[v]) w6 by
        unfold bE iJ;rw[List.length_append,List.map_append];exact hown6)
       have nO:=jh (jW HO.out hown (Nat.le_refl _) EN);clear hown6 EN hv6 hown;refine jh ?_;go_wp2;go_roundw
       case rel=>exact⟨p+1,om,by go_num,by rw[HS2.out];exact Ug,nO⟩
       case measure=>simp only[intOf];omega
     ·have hz1:decide (u∈out)=false:=dF hu
      by_cases hv:v∈out
      ·have hz2:decide (v∈out)=true:=dP hv;have HS2:=jh (HS.out.trans ((if_neg hu).trans (if_pos hv)));clear hu hv
       go_wp2_with (at_builtin;refine push sQ rfl _ _ rfl w.heap.size _ _ _ hown rfl #[.int .u64 u] _ rfl rfl rfl (by simp[Value.oneCell']) hln jL hsz ?_;intro g6 Tf w6 hown6 EN hv6;refine Hid.out ?_)
       have Ug:=jh (show bE w.heap.size (.slice (some ⟨g6,0,none⟩) (out.length+1:Nat) Tf) (out++[u]) w6 by
        unfold bE iJ;rw[List.length_append,List.map_append];exact hown6)
       have nO:=jh (jW HO.out hown (Nat.le_refl _) EN);clear hown6 EN hv6 hown;refine jh ?_;go_wp2;go_roundw
       case rel=>exact⟨p+1,om,by go_num,by rw[HS2.out];exact Ug,nO⟩
       case measure=>simp only[intOf];omega
      ·have hz2:decide (v∈out)=false:=dF hv;have HS2:=jh (HS.out.trans ((if_neg hu).trans (if_neg hv)));clear hu hv;clear hown;go_wp2;go_roundw
       case rel=>exact⟨p+1,om,by go_num,by rw[HS2.out];exact HV,HO⟩
       case measure=>simp only[intOf];omega
    ·obtain rfl:p=n:=om;have hV:=HV.out;rw[←HN.out,List.take_length] at hV;have N8:=jh hV;clear hV HV;go_wp2;go_roundw
     case rel=>exact⟨q+1,oC oP.out,by go_num,by rw[HQ.out];exact N8,HO⟩
     case measure=>have:=oP.out;simp only[intOf];omega
  ·obtain rfl:q=n:=om;go_wp2;go_ret;exact⟨_,rfl,HV.out,HO.out⟩
theorem LV (W E V D:Int) (sa:Option Addr) (m sc:Nat) (hm:m≤9223372036854775807):
  Calls Tryz.prog 5 #[.agg #[.int .i64 W,.int .i64 E,.int .i64 V,.int .i64 D],.slice sa m sc] w λe w'=>e=.returned (.bool (decide (V≤12)&&decide (E≤30)&&decide ((m:Int)≤60)))∧Off [] w w':=by
 by_cases h1:V≤12
 ·have d1:decide (V≤12)=true:=dP h1
  by_cases h2:E≤30
  ·have d2:decide (E≤30)=true:=dP h2;go_in;go_wp2;go_ret;exact⟨by simp[d1,d2],(Off.refl _ _).alloc _⟩
  ·have d2:decide (E≤30)=false:=dF h2;go_in;go_wp2;go_ret;exact⟨by simp[d1,d2],(Off.refl _ _).alloc _⟩
 ·have d1:decide (V≤12)=false:=dF h1;go_in;go_wp2;go_ret;exact⟨by simp[d1],(Off.refl _ _).alloc _⟩
end
structure RmI (w0:World) (E V N:Nat) (t:Int) (s:St) (xs:List Nat) (v:Value) (M:Nat) (b i:Nat) (F':bD) (s':St) (wr:World):Prop where
 st:∃bg inc,kY wr F' E V N bg s' inc
 rc:s'.rc=s.rc∧s'.ex=s.ex
 U:s'.U=(xs.take i).foldl List.erase s.U
 dr:vS s.ex t s'.U (xs.drop i)
 b:F'.b=b
 bo:Bo [] F'.bl w0 wr
 row:fZ M v xs wr
 ap:∀g,v.ownBlock=some g→g∉F'.bl
theorem Ab {r:Nat}:∀(ys:List Nat) (V:List Nat),r∈ys.foldl List.erase V→r∈V
 |[],_,h=>h
 |_::ys,_,h=>List.mem_of_mem_erase (Ab ys _ h)
section
variable {w:World} {G:dW} {c:Cf} {nw ex:Int} {ad:Nat} {s:St}
theorem Lg (h:tO w G c nw ad ex s) (u v x t:Int):
  Calls Tryz.prog 23 #[.pointer (some ⟨G.b,0,none⟩),.agg #[.int .u64 u,.int .u64 v,.int .i64 x,.int .i64 t]] w λe w'=>∃er,e=.returned (.int .i64 er)∧Off [] w w'∧(er=0→∀s',TkR s s' t→jD c.E s'→gQ c.E c.V s' u v=0)∧(gQ c.E c.V s u v=0→er=0):=by
 obtain⟨f,k,ws⟩:=h;obtain⟨B,hB⟩:=nE w.heap.size;obtain⟨W0,hW0⟩:∃W,w.alloc (.cells #[.int .u64 u,.int .u64 v,.int .i64 x,.int .i64 t] 36)=W:=⟨_,rfl⟩
 have o0:Off [] w W0:=by rw[←hW0];exact(Off.refl _ _).alloc _
 have r0:Row W0 B 4 (λi=>(#[Value.int .u64 u,.int .u64 v,.int .i64 x,.int .i64 t]:Array Value).getD i undef):=by
  rw[←hW0,←hB];exact Row.lit _ _ _ (Nat.le_refl _) lC
 have K:=jh k;have WS:=jh ws;have O0:=jh o0;have R0:=jh r0;have HW0:=jh hW0;have HB:=jh hB;clear k ws o0 r0 hW0 hB;go_in;go_wp2_with fail;rw[HW0.out,HB.out];have k0:=K.out.off O0.out;obtain⟨N,bg,inc,st0⟩:=k0.st;have HC:=jh (qB (st0.off (w':=W0.drew) (Off.refl _ _).drew) u v t x);have vF:W0.drew.cell? ⟨G.b,5,none⟩=some (.pointer (some ⟨G.sf.b,0,none⟩))∧W0.drew.cell? ⟨B,0,none⟩=some (.int .u64 u)∧W0.drew.cell? ⟨B,1,none⟩=some (.int .u64 v)∧W0.drew.cell? ⟨B,2,none⟩=some (.int .i64 x)∧W0.drew.cell? ⟨B,3,none⟩=some (.int .i64 t):=⟨k0.c5,R0.out.c 0,R0.out.c 1,R0.out.c 2,R0.out.c 3⟩;have HS:=vF;clear k0 st0 vF;refine aj (λw'=>w'.cell? ⟨G.b,5,none⟩=some (.pointer (some ⟨G.sf.b,0,none⟩))∧w'.cell? ⟨B,0,none⟩=some (.int .u64 u)∧w'.cell? ⟨B,1,none⟩=some (.int .u64 v)∧w'.cell? ⟨B,2,none⟩=some (.int .i64 x)∧w'.cell? ⟨B,3,none⟩=some (.int .i64 t)) (by kernel_rfl) ?_;refine tC 0 ?_;refine tC 1 ?_;refine tC 2 ?_;refine tC 3 ?_;refine tC 4 ?_
 try simp only[sD]
 refine rC 5 λK2 hK=>?_;go_simp;apply mO HC;rintro e W1 ⟨rfl,o1⟩;dsimp only
 have o01:Off [] w W1:=(O0.out.drew).trans o1 λj hj=>by cases hj
 have o1':Off [] W0 W1:=(Off.refl _ _).drew.trans o1 λj hj=>by cases hj
 have k1:=K.out.off o01;have r1:=R0.out.of_block (o1'.block B R0.out.lt sj);refine hK.out _ _ ⟨k1.c5,r1.c 0,r1.c 1,r1.c 2,r1.c 3⟩ (λHS=>?_);clear hK HC o1 o1';refine tC 6 ?_
 try simp only[sD]
 refine dD ⟨rfl,?_⟩;clear HS;obtain⟨ck,hck⟩:=nE (gQ c.E c.V s u v);rw[hck];have HCK:=jh hck
 by_cases hz:ck=0
 ·subst hz;have HO:=jh o01;clear hck k1 r1 o01;go_wp2;go_ret;exact⟨0,rfl,HO.out,λ_ s' h1 h2=>h1.mono WS.out.wn.st h2 HCK.out,λ_=>rfl⟩
 ·have d0:((ck:Int)==0)=false:=by simp;exact hz
  have HZ:=jh hz;obtain⟨L,sc,hL⟩:=k1.sc;have c6:=k1.c6;have HNx:=jh (Np sc (oC WS.out.cf.E));have O1:=jh o01;have R1:=jh r1;have HL:=jh hL;have HBk:=jh (And.intro (K.out.lt G.b (dW.ak (i:=0) om (by simp[dW.aN]))) R1.out.lt);clear hck hz k1 r1 o01 sc hL;go_wp2_with fail;apply mO HNx
  cases L with
  |nil=>
   rintro e W2 ⟨rfl,o2⟩;unfold Ei;have HO:=jh (O1.out.trans o2 λj hj=>by cases hj);clear o2 HNx c6;go_wp2;go_ret;exact⟨ck,rfl,HO.out.alloc _,λh=>absurd h HZ.out,λh=>absurd (HCK.out.symm.trans h) HZ.out⟩
  |cons y T=>
   rintro e W2 ⟨rfl,o2⟩;unfold Ei
   have o02:Off [] w W2:=O1.out.trans o2 λj hj=>by cases hj
   have r2:=R1.out.of_block (o2.block B R1.out.lt sj);obtain⟨W3,hW3⟩:∃W,W2.alloc (.cells #[.int .i64 y.i,.int .i64 y.k] 112)=W:=⟨_,rfl⟩
   have o3:Off [] w W3:=by rw[←hW3];exact o02.alloc _
   have r3:Row W3 B 4 (λi=>(#[Value.int .u64 u,.int .u64 v,.int .i64 x,.int .i64 t]:Array Value).getD i undef):=by rw[←hW3];exact r2.alloc _
   have q3:=r3.c 3;have k3:=K.out.off o3;have c5:=k3.c5;obtain⟨N3,bg3,aaz,Vj⟩:=k3.st;have HSC:=jh (LZ Vj);have O3:=jh o3;have R3:=jh r3;have HW3:=jh hW3;rw[←hW3] at q3 c5;have q3':(W2.alloc (.cells #[.int .i64 y.i,.int .i64 y.k] 112)).cell? ⟨B,3,none⟩=some (.int .i64 t):=q3;clear o2 o02 r2 o3 r3 hW3 k3 Vj q3 HNx c6
   by_cases hgt:t<y.k
   ·have e1:decide (t<y.k)=true:=dP hgt;have e2:decide (y.k>t)=true:=dP hgt;clear hgt;go_wp2;go_ret;exact⟨ck,rfl,by rw[HW3.out];exact O3.out,λh=>absurd h HZ.out,λh=>absurd (HCK.out.symm.trans h) HZ.out⟩
   ·have e1:decide (t<y.k)=false:=dF hgt;have e2:decide (y.k>t)=false:=dF hgt;clear hgt;go_wp2_with fail;rw[HW3.out];apply mO HSC;rintro e W4 ⟨F4,rfl,Yu,b4⟩;clear HSC c5 q3' e1 e2
    have o4:Off [] w W4:=O3.out.trans b4.off λj hj=>by cases hj
    have k4:=K.out.off o4;have r4:=R3.out.of_block (b4.off.block B R3.out.lt sj);obtain⟨L4,sc4,hL4⟩:=k4.sc;have HEC:=jh (Ns (sc4.keep (w':=W4.drew) λ_ _=>rfl) (oC WS.out.cf.E));have HS:W4.drew.cell? ⟨G.b,6,none⟩=some (.pointer (some ⟨G.eb,0,none⟩))∧W4.drew.cell? ⟨B,3,none⟩=some (.int .i64 t):=⟨k4.c6,r4.c 3⟩;have O4:=jh o4;have R4:=jh r4;have ST4:=jh Yu;have B4:=jh (show Bo [] F4.bl w W4 from⟨o4,λj hj=>(b4.fU j hj).imp id λe=>Nat.le_trans O3.out.size e⟩);have oQ:=jh hL4;have Yi:=jh (show B∉F4.bl from λc1=>(b4.fU B c1).elim (λe=>by cases e) λe=>oC R3.out.lt);clear b4 o4 k4 r4 sc4 Yu hL4;go_wp2;refine aj (λw'=>w'.cell? ⟨G.b,6,none⟩=some (.pointer (some ⟨G.eb,0,none⟩))∧w'.cell? ⟨B,3,none⟩=some (.int .i64 t)) (by kernel_rfl) ?_;refine tC 0 ?_;refine tC 1 ?_;refine tC 2 ?_;refine tC 3 ?_;refine tC 5 ?_;refine tC 6 ?_;refine tC 9 ?_
    try simp only[sD]
    refine rC 4 λK2 hK=>?_;go_simp;apply mO HEC;rintro e W5 ⟨b5,h5,rfl,sc5,UR⟩;dsimp only
    have Ec:Off [] W4 W5:=(Off.refl _ _).drew.trans UR.off λj hj=>by cases hj
    have o5:Off [] w W5:=O4.out.trans Ec λj hj=>by cases hj
    have k5:=K.out.off o5;have r5:=R4.out.of_block (Ec.block B R4.out.lt sj);refine hK.out _ _ ⟨k5.c6,r5.c 3⟩ (λHS=>?_);have HDU:=jh (E5 (t:=t) sc5 (oC WS.out.cf.E) WS.out.wn.st.und oQ.out);have ST5:=jh (ST4.out.off Ec);have B5:=jh (B4.out.trans (Bo.bA Ec));have R5:=jh r5;have O5:=jh o5;have HN5:=jh (λj (hj:j∈b5::h5.bl c.E)=>(show w.heap.size≤j from(UR.fU j hj).elim (λe=>by cases e) λe=>Nat.le_trans O4.out.size e));have HM5:=jh (λj (hj:j∈b5::h5.bl c.E)=>(show W4.heap.size≤j from(UR.fU j hj).elim (λe=>by cases e) λe=>e));clear hK HEC Ec o5 k5 r5 sc5 UR oQ;refine rC 7 λK2 hK=>?_;go_simp;apply mO HDU;rintro e W6 ⟨vv,xs,h6,L6,rfl,hO6,_,hdr,_,_,nk⟩;dsimp only;have o56:Off [] w W6:=O5.out.trans nk.off λj hj=>.inr (HN5.out j hj);have k6:=K.out.off o56;have hF6:∀j∈F4.bl,W6.heap[j]?=W5.heap[j]?:=λj hj=>nk.off.block j (ST5.out.lt j hj) λc1=>oD (HM5.out j c1) (ST4.out.lt j hj);have r6:=R5.out.of_block (nk.off.block B R5.out.lt λc1=>oD (HM5.out B c1) R4.out.lt);refine hK.out _ _ ⟨k6.c6,r6.c 3⟩ (λHS=>?_)
    have hxl:xs.length≤16384:=by
     have h1:=hdr.len;have h2:=jY WS.out.wn.st.und WS.out.wn.st.ult;have:=WS.out.cf.E;omega
    obtain⟨a,cap,A0,rfl,_⟩:=iy hO6
    have I0:RmI w c.E c.V N3 t s xs (.slice a xs.length cap) W5.heap.size F4.b 0 F4 s W6:=⟨⟨bg3,aaz,ST5.out.keep hF6⟩,⟨rfl,rfl⟩,rfl,hdr,rfl,⟨o56,B5.out.fU⟩,hO6,λg hg c1=>by
     have h1:=eD (show W6.ownsRow W5.heap.size _ 1 _ xs.length _ from hO6) hg
     have:=ST5.out.lt g c1;omega⟩
    obtain⟨n,hn⟩:=nE xs.length;have HI0:=jh I0;have HN:=jh hn;have R6:=jh r6;have HDR:=jh hdr;rw[hn] at hxl HI0⊢;clear hK HDU hO6 hdr nk o56 k6 hF6 r6 I0 hn ST5 B5 R5 O5 HN5 HM5;refine tC 8 ?_
    try simp only[sD]
    refine dD ⟨rfl,?_⟩;clear HS;go_wp2
    go_loopg [51] n (λQ iv wr=>∃(i:Nat) (F':bD) (s':St),Q+i=n∧iv=.int .i64 i∧Hid (RmI w c.E c.V N3 t s xs (.slice a n cap) W5.heap.size F4.b i F' s' wr)∧Hid (Row wr B 4 (λi=>(#[Value.int .u64 u,.int .u64 v,.int .i64 x,.int .i64 t]:Array Value).getD i undef))∧Hid (B∉F'.bl))
    case atStart=>exact⟨0,_,_,rfl,rfl,HI0,R6,Yi⟩
    case round=>
     clear HI0 R6 Yi;obtain⟨i,F',s',hQ,rfl,HI,Yb,Yi⟩:=hrel
     by_cases hlt:i<n
     ·have d1:decide ((i:Int)<n)=true:=dP om;have d2:decide (i<n)=true:=dP hlt;obtain⟨j,hj⟩:=nE (i+1);have wj:(i:Int)+1=(j:Int):=om;have bi:(0:Int)≤i∧(i:Int)<n∧(n:Int)≤16384∧(0:Int)≤j∧(j:Int)≤16384:=om
      have hil:i<xs.length:=by rw[HN.out];exact hlt
      obtain⟨z,hx⟩:=nE (xs.getD i 0);have hd:=HI.out.dr;rw[Ah hil,hx] at hd;obtain⟨a',c',A',e,hrd⟩:=iy HI.out.row;have ix:=hrd.ix i hil;have cl:=hrd.cell i hil 0 om;rw[HN.out] at e ix
      obtain⟨rfl,rfl⟩:a=a'∧cap=c':=by cases e;exact⟨rfl,rfl⟩
      rw[add_zero] at cl
      have cl':wr.cell? (A' i)=some (.int .i64 z):=by rw[cl];unfold nums;rw[iV,hx]
      obtain⟨bg6,ajI,st6⟩:=HI.out.st
      have HR:=jh (Dy st6 hd.1.1 λr hr=>by
       rw[HI.out.U] at hr;have:=WS.out.wf r (Ab _ _ hr);rw[HI.out.rc.1]
       exact⟨this.1,this.2.1⟩)
      rw[HI.out.b] at HR;have HX:=jh (And.intro hd (And.intro hil hx));have HJ:=jh hj;have HQ:=jh hQ;clear e hrd cl hd hil hx hj hQ hlt st6;go_wp2_with fail;apply mO HR;rintro e w7 ⟨⟨v7,rfl⟩,F7,s7,aqo,st7,hb7,Cq,rr⟩
      have I7:RmI w c.E c.V N3 t s xs (.slice a n cap) W5.heap.size F4.b j F7 s7 w7:=by
       have hU7:s7.U=s'.U.erase z:=rr.U;have aeY:∀g,(Value.slice a n cap).ownBlock=some g→g<wr.heap.size:=λg hg=>aF (show wr.ownsRow W5.heap.size _ 1 _ xs.length _ from HI.out.row) hg;refine⟨⟨_,_,st7⟩,⟨rr.rc.1.trans HI.out.rc.1,rr.rc.2.trans HI.out.rc.2⟩,?_,?_,hb7,HI.out.bo.trans Cq,aD (show wr.ownsRow W5.heap.size _ 1 _ xs.length _ from HI.out.row) λg hg=>Cq.off.block g (aeY g hg) (HI.out.ap g hg),λg hg c1=>?_⟩
       ·rw[←HJ.out,zC HX.out.2.1,HX.out.2.2,←HI.out.U];exact hU7
       ·rw[hU7,←HJ.out];exact HX.out.1.2
       ·rcases Cq.fU g c1 with e |e
        ·exact HI.out.ap g hg e
        ·have:=aeY g hg;omega
      have HI7:=jh I7;have alE:=jh (Yb.out.of_block (Cq.off.block B Yb.out.lt Yi.out));have amr:=jh (show B∉F7.bl from λc1=>(Cq.fU B c1).elim Yi.out λe=>oC Yb.out.lt);clear st7 hb7 Cq rr I7 HR ix cl';go_wp2
      go_roundg (n-j)
      case measure=>have:=HJ.out;have:=HQ.out;omega
      case rel=>exact⟨j,F7,s7,oC HJ.out,rfl,HI7,alE,amr⟩
     ·have d1:decide ((i:Int)<n)=false:=dF om;have d2:decide (i<n)=false:=dF hlt;obtain rfl:i=n:=om;have ht:xs.take i=xs:=List.take_of_length_le (by rw[HN.out];exact Nat.le_refl _);have hU:=HI.out.U;rw[ht] at hU;obtain⟨bg6,ajI,st6⟩:=HI.out.st;have HC:=jh (qB st6 u v t x);rw[HI.out.b] at HC;have HU:=jh (And.intro hU st6.ok);have b0:=Yb.out.c 0;have b1:=Yb.out.c 1;have b2:=Yb.out.c 2;have b3:=Yb.out.c 3;have b0':wr.cell? ⟨B,0,none⟩=some (.int .u64 u):=b0;have b1':wr.cell? ⟨B,1,none⟩=some (.int .u64 v):=b1;have b2':wr.cell? ⟨B,2,none⟩=some (.int .i64 x):=b2;have b3':wr.cell? ⟨B,3,none⟩=some (.int .i64 t):=b3;clear hlt ht hU st6 b0 b1 b2 b3;go_wp2_with fail;apply mO HC;rintro e w8 ⟨rfl,o8⟩;have HO8:=jh (HI.out.bo.off.trans o8 λj hj=>by cases hj);clear o8 b0' b1' b2' b3' HC;go_wp2;go_ret;refine⟨_,rfl,HO8.out,λh s2 h1 h2=>?_,λh=>absurd (HCK.out.symm.trans h) HZ.out⟩;rw[←h];exact(NQ HU.out.2 h2 (λk=>by rw[HU.out.1,HDR.out.mem WS.out.wn.st.und,h1.U]) (h1.rc.trans HI.out.rc.1.symm)).symm
end
section
variable {w:World} {G:dW} {c:Cf} {nw ex:Int} {ad:Nat} {s:St}
theorem Dk (h:tO w G c nw ad ex s) (u v x t:Int) (hc:gQ c.E c.V s u v=0) (hf:t+c.win≤9223372036854775807) (hu:(Lit.int .u64 u).wf=true) (hv:(Lit.int .u64 v).wf=true) (hx:dM x) (ht:dM t) (had:ad≤1000000):
  Calls Tryz.prog 24 #[.pointer (some ⟨G.b,0,none⟩),.agg #[.int .u64 u,.int .u64 v,.int .i64 x,.int .i64 t]] w λe w'=>e=.returned (.tuple #[])∧∃G' s' k,tO w' G' c nw (ad+1) ex s'∧G'.b=G.b∧Bo (G.bl c.E) (G'.bl c.E) w w'∧Uc s s' k ⟨u,v,t,x⟩ (t+c.win):=by
 obtain⟨f,k0,ws⟩:=h;obtain⟨B,hB⟩:=nE w.heap.size;obtain⟨W0,hW0⟩:∃W,w.alloc (.cells #[.int .u64 u,.int .u64 v,.int .i64 x,.int .i64 t] 36)=W:=⟨_,rfl⟩
 have o0:Off [] w W0:=by rw[←hW0];exact(Off.refl _ _).alloc _
 have r0:Row W0 B 4 (λi=>(#[Value.int .u64 u,.int .u64 v,.int .i64 x,.int .i64 t]:Array Value).getD i undef):=by
  rw[←hW0,←hB];exact Row.lit _ _ _ (Nat.le_refl _) lC
 obtain⟨X,hX⟩:=nE (t+c.win);rw[hX] at hf⊢;have KW:=jh k0;have WS:=jh ws;have O0:=jh o0;have R0:=jh r0;have HW0:=jh hW0;have HB:=jh hB;have HC:=jh hc;have HF:=jh hf;have HX:=jh hX;have HT:=jh (And.intro hx ht);have HA:=jh had;have Zk:=jh (And.intro hu hv);clear k0 ws o0 r0 hW0 hB hc hf hX hx ht had hu hv;go_in;go_wp2_with fail;rw[HW0.out,HB.out];have k1:=KW.out.off O0.out;have HE:=jh (NK (w:=W0.drew) k1.ck WS.out.cf.win HT.out.2 (by rw[HX.out];exact HF.out));rw[HX.out] at HE;have HS:W0.drew.cell? ⟨G.b,4,none⟩=some (.pointer (some ⟨G.cb,0,none⟩))∧W0.drew.cell? ⟨B,3,none⟩=some (.int .i64 t):=⟨k1.c4,R0.out.c 3⟩;have K1:=jh k1;clear k1;refine aj (λw'=>w'.cell? ⟨G.b,4,none⟩=some (.pointer (some ⟨G.cb,0,none⟩))∧w'.cell? ⟨B,3,none⟩=some (.int .i64 t)) (by kernel_rfl) ?_;refine tC 0 ?_;refine tC 1 ?_;refine tC 2 ?_;refine tC 3 ?_;refine tC 4 ?_;refine tC 5 ?_
 try simp only[sD]
 refine rC 6 λK2 hK=>?_;go_simp;apply mO HE;rintro e w' ⟨rfl,rfl⟩;dsimp only;refine hK.out _ _ HS (λHS=>?_);clear hK HE;refine tC 7 ?_;refine tC 8 ?_;refine tC 9 ?_;refine tC 10 ?_;refine tC 11 ?_
 try simp only[sD]
 refine dD ⟨rfl,?_⟩;clear HS;obtain⟨W1,hW1⟩:=nE W0.drew;rw[hW1];have O1:Hid (Off [] w W1):=jh (by rw[←hW1];exact O0.out.drew);have R1:Hid (Row W1 B 4 (λi=>(#[Value.int .u64 u,.int .u64 v,.int .i64 x,.int .i64 t]:Array Value).getD i undef)):=jh (by rw[←hW1];exact R0.out);have K1:=jh (KW.out.off O1.out);clear hW1;obtain⟨N1,bg1,EG,st1⟩:=K1.out.st;have HI:=jh (DI (ex:=X) (st1.off (w':=W1.drew) (Off.refl _ _).drew) u v x t HC.out Zk.out.1 Zk.out.2);have HS:W1.drew.cell? ⟨G.b,5,none⟩=some (.pointer (some ⟨G.sf.b,0,none⟩))∧W1.drew.cell? ⟨B,0,none⟩=some (.int .u64 u)∧W1.drew.cell? ⟨B,1,none⟩=some (.int .u64 v)∧W1.drew.cell? ⟨B,2,none⟩=some (.int .i64 x)∧W1.drew.cell? ⟨B,3,none⟩=some (.int .i64 t):=⟨K1.out.c5,R1.out.c 0,R1.out.c 1,R1.out.c 2,R1.out.c 3⟩;clear st1;go_wp2;refine aj (λw'=>w'.cell? ⟨G.b,5,none⟩=some (.pointer (some ⟨G.sf.b,0,none⟩))∧w'.cell? ⟨B,0,none⟩=some (.int .u64 u)∧w'.cell? ⟨B,1,none⟩=some (.int .u64 v)∧w'.cell? ⟨B,2,none⟩=some (.int .i64 x)∧w'.cell? ⟨B,3,none⟩=some (.int .i64 t)) (by kernel_rfl) ?_;refine tC 0 ?_;refine tC 1 ?_;refine tC 2 ?_;refine tC 3 ?_;refine tC 4 ?_;refine tC 5 ?_
 try simp only[sD]
 apply tw6 (fun(W4:World) (D k:Nat) (sq:Int) (F2:bD) (s2:St)=>fQ W4 ({ G with sf:=F2 }:dW) c nw ad ex s2 s.ex s.U f∧Row W4 B 4 (λi=>(#[Value.int .u64 u,.int .u64 v,.int .i64 x,.int .i64 t]:Array Value).getD i undef)∧Row W4 D 7 (λi=>(#[Value.int .i64 k,.int .u64 sq,.int .u64 u,.int .u64 v,.int .i64 x,.int .i64 t,.int .i64 X]:Array Value).getD i undef)∧Bo (G.bl c.E) (({ G with sf:=F2 }:dW).bl c.E) w W4∧D∉({ G with sf:=F2 }:dW).bl c.E∧Uc s s2 k ⟨u,v,t,x⟩ X∧F2.b=G.sf.b∧jD c.E s2)
 ·intro TL;refine Oh [6,10] ?_;refine AllReadyH.cons rfl (λK2 hK=>?_) (AllReadyH.cons rfl (λK2 hK=>?_) AllReadyH.nil)
  ·go_simp;apply mO HI;rintro e W2 ⟨k,sq,F2,bg2,s2,aaA,rfl,st2,hb2,Iz,ins⟩;dsimp only;obtain⟨k2,b2⟩:=(K1.out.off (w':=W1.drew) (Off.refl _ _).drew).setSt ⟨N1,bg2,aaA,st2⟩ hb2 Iz;have Kh:B∉G.bl c.E:=λc1=>oD (KW.out.lt B c1) HB.out;have b02:Bo (G.bl c.E) (({ G with sf:=F2 }:dW).bl c.E) w W2:=(Bo.bA O1.out).trans ((Bo.bA ((Off.refl _ _).drew)).trans b2);have r2:=(show Row W1.drew B 4 _ from R1.out).of_block (b2.off.block B R1.out.lt Kh)
   have e5:W2.cell? ⟨G.b,5,none⟩=some (.pointer (some ⟨G.sf.b,0,none⟩)):=by rw[←hb2];exact k2.c5
   refine hK.out _ _ ⟨e5,r2.c 0,r2.c 1,r2.c 2,r2.c 3⟩ (λHS=>?_)
   have afI:B∉({ G with sf:=F2 }:dW).bl c.E:=λc1=>(b2.fU B c1).elim Kh λe=>by have:=R1.out.lt;have e':W1.heap.size≤B:=e;omega
   have KW2:=jh k2;have BO2:=jh b02;have R2:=jh r2;have tV:=jh ins;have HB2:=jh hb2;have HOK:=jh st2.ok;have HBN:=jh (And.intro Kh afI);clear hK st2 hb2 Iz ins k2 b2 Kh b02 r2 e5 afI;refine tC 7 ?_;refine tC 8 ?_;refine tC 9 ?_
   try simp only[sD]
   refine rC 10 λK2 hK=>?_;go_simp;obtain⟨D,hD⟩:=nE W2.heap.size;obtain⟨W3,hW3⟩:∃W,W2.alloc (.cells #[.int .i64 0,.int .u64 0,.int .u64 0,.int .u64 0,.int .i64 0,.int .i64 0,.int .i64 0] 45)=W:=⟨_,rfl⟩
   have o3:Off [] W2 W3:=by rw[←hW3];exact(Off.refl _ _).alloc _
   have z3:Row W3 D 7 (λi=>(#[Value.int .i64 0,.int .u64 0,.int .u64 0,.int .u64 0,.int .i64 0,.int .i64 0,.int .i64 0]:Array Value).getD i undef):=by
    rw[←hW3,←hD];exact Row.lit _ _ _ (Nat.le_refl _) lC
   have r3:=R2.out.of_block (o3.block B R2.out.lt sj);have k3:=KW2.out.off o3
   have e5:W3.cell? ⟨G.b,5,none⟩=some (.pointer (some ⟨G.sf.b,0,none⟩)):=by rw[←HB2.out];exact k3.c5
   rw[hW3,hD];refine hK.out _ _ ⟨e5,r3.c 0,r3.c 1,r3.c 2,r3.c 3⟩ (λHS=>?_);have O3:=jh o3;have R3:=jh r3;clear hK o3 hW3 r3 k3 e5;refine rC 11 λK2 hK=>?_;have q0:W3.cell? ⟨D,0,none⟩=some (.int .i64 0):=z3.c 0;have q1:W3.cell? ⟨D,1,none⟩=some (.int .u64 0):=z3.c 1;have q2:W3.cell? ⟨D,2,none⟩=some (.int .u64 0):=z3.c 2;have q3:W3.cell? ⟨D,3,none⟩=some (.int .u64 0):=z3.c 3;have q4:W3.cell? ⟨D,4,none⟩=some (.int .i64 0):=z3.c 4;have q5:W3.cell? ⟨D,5,none⟩=some (.int .i64 0):=z3.c 5;have q6:W3.cell? ⟨D,6,none⟩=some (.int .i64 0):=z3.c 6;have g0:=z3.frozen 0;have g1:=z3.frozen 1;have g2:=z3.frozen 2;have g3:=z3.frozen 3;have g4:=z3.frozen 4;have g5:=z3.frozen 5;have g6:=z3.frozen 6;go_simp;obtain⟨W4,ji⟩:=nE ((((((((W3.setCell ⟨D,0,none⟩ (.int .i64 k)).setCell ⟨D,1,none⟩ (.int .u64 sq)).setCell ⟨D,2,none⟩ (.int .u64 u)).setCell ⟨D,3,none⟩ (.int .u64 v)).setCell ⟨D,4,none⟩ (.int .i64 x)).setCell ⟨D,5,none⟩ (.int .i64 t)).setCell ⟨D,6,none⟩ (.int .i64 X)));rw[ji]
   have z4:Row W4 D 7 (λi=>(#[Value.int .i64 k,.int .u64 sq,.int .u64 u,.int .u64 v,.int .i64 x,.int .i64 t,.int .i64 X]:Array Value).getD i undef):=by
    rw[←ji];refine(((((((z3.set 0 _).set 1 _).set 2 _).set 3 _).set 4 _).set 5 _).set 6 _).congr λi hi=>?_
    match i,hi with
    |0,_ |1,_ |2,_ |3,_ |4,_ |5,_ |6,_=>rfl
    |k+7,e=>exact absurd e om
   have hDz:=O3.out.size
   have o4:Off [] W2 W4:=by
    rw[←ji];exact((((((O3.out.cK (p:=⟨D,0,none⟩) (Nat.le_of_eq hD) _).cK (p:=⟨D,1,none⟩) (Nat.le_of_eq hD) _).cK (p:=⟨D,2,none⟩) (Nat.le_of_eq hD) _).cK (p:=⟨D,3,none⟩) (Nat.le_of_eq hD) _).cK (p:=⟨D,4,none⟩) (Nat.le_of_eq hD) _).cK (p:=⟨D,5,none⟩) (Nat.le_of_eq hD) _).cK (p:=⟨D,6,none⟩) (Nat.le_of_eq hD) _
   have r4:=R2.out.of_block (o4.block B R2.out.lt sj);have k4:=KW2.out.off o4
   have e5:W4.cell? ⟨G.b,5,none⟩=some (.pointer (some ⟨G.sf.b,0,none⟩)):=by rw[←HB2.out];exact k4.c5
   refine hK.out _ _ ⟨e5,r4.c 0,r4.c 1,r4.c 2,r4.c 3⟩ (λHS=>?_);have hDn:D∉({ G with sf:=F2 }:dW).bl c.E:=λc1=>oC (KW2.out.lt D c1);have Zf:=jh k4;have R4:=jh r4;have Z4:=jh z4;have BO4:=jh (BO2.out.trans (Bo.bA o4));have HDN:=jh hDn;clear hK o4 ji r4 k4 z4 e5 hDn q0 q1 q2 q3 q4 q5 q6 g0 g1 g2 g3 g4 g5 g6 z3 hD hDz O3 R3 KW2 R2 BO2;refine tC 12 ?_
   try simp only[sD]
   exact TL W4 D k sq F2 s2 ⟨Zf.out,R4.out,Z4.out,BO4.out,HDN.out,tV.out,HB2.out,HOK.out⟩
  ·go_simp;obtain⟨D,hD⟩:=nE W1.heap.size;obtain⟨W2,hW2⟩:∃W,(W1.alloc (.cells #[.int .i64 0,.int .u64 0,.int .u64 0,.int .u64 0,.int .i64 0,.int .i64 0,.int .i64 0] 45)).drew=W:=⟨_,rfl⟩;have afq:W1.drew.alloc (.cells #[.int .i64 0,.int .u64 0,.int .u64 0,.int .u64 0,.int .i64 0,.int .i64 0,.int .i64 0] 45)=W2:=hW2
   have o2:Off [] W1 W2:=by rw[←hW2];exact((Off.refl _ _).alloc _).drew
   have z2:Row W2 D 7 (λi=>(#[Value.int .i64 0,.int .u64 0,.int .u64 0,.int .u64 0,.int .i64 0,.int .i64 0,.int .i64 0]:Array Value).getD i undef):=by
    rw[←afq,←hD];exact Row.lit (n:=7) (f:=λi=>(#[Value.int .i64 0,.int .u64 0,.int .u64 0,.int .u64 0,.int .i64 0,.int .i64 0,.int .i64 0]:Array Value).getD i undef) W1.drew #[.int .i64 0,.int .u64 0,.int .u64 0,.int .u64 0,.int .i64 0,.int .i64 0,.int .i64 0] 45 (Nat.le_refl _) lC
   have r2:=R1.out.of_block (o2.block B R1.out.lt sj);have k2:=K1.out.off o2;rw[hW2,hD];refine hK.out _ _ ⟨k2.c5,r2.c 0,r2.c 1,r2.c 2,r2.c 3⟩ (λHS=>?_);obtain⟨N2,bg2,aaA,st2⟩:=k2.st;have HI2:=jh (DI (ex:=X) st2 u v x t HC.out Zk.out.1 Zk.out.2);have O2:=jh (O1.out.trans o2 λj hj=>by cases hj);have R2:=jh r2;have Z2:=jh z2;have K2':=jh k2;have HBD:=jh (show B≠D from λe=>oC R1.out.lt);have HDB:=jh (show D∉G.bl c.E∧w.heap.size≤D from⟨λc1=>oD (KW.out.lt D c1) O1.out.size,oC O1.out.size⟩);clear hK hW2 afq o2 z2 r2 k2 st2 hD;refine rC 6 λK2 hK=>?_;go_simp;apply mO HI2;rintro e W3 ⟨k,sq,F2,bg3,s2,aaz,rfl,Vj,hb2,Iz,ins⟩;dsimp only;obtain⟨k3,b3⟩:=K2'.out.setSt ⟨N2,bg3,aaz,Vj⟩ hb2 Iz;have Kh:B∉G.bl c.E:=λc1=>oD (KW.out.lt B c1) HB.out;have b03:Bo (G.bl c.E) (({ G with sf:=F2 }:dW).bl c.E) w W3:=(Bo.bA O2.out).trans b3;have r3:=R2.out.of_block (b3.off.block B R2.out.lt Kh);have z3:=Z2.out.of_block (b3.off.block D Z2.out.lt HDB.out.1)
   have e5:W3.cell? ⟨G.b,5,none⟩=some (.pointer (some ⟨G.sf.b,0,none⟩)):=by rw[←hb2];exact k3.c5
   refine hK.out _ _ ⟨e5,r3.c 0,r3.c 1,r3.c 2,r3.c 3⟩ (λHS=>?_);have hDn:D∉({ G with sf:=F2 }:dW).bl c.E:=λc1=>(b3.fU D c1).elim HDB.out.1 λe=>oC Z2.out.lt;have KW3:=jh k3;have Zz:=jh b03;have R3:=jh r3;have tV:=jh ins;have HB2:=jh hb2;have HOK:=jh Vj.ok;have ahl:=jh hDn;have atw:=jh (show B∉({ G with sf:=F2 }:dW).bl c.E from λc1=>(b3.fU B c1).elim Kh λe=>oC R2.out.lt);clear hK HI2 Vj hb2 Iz ins k3 b3 Kh b03 r3 e5 K2' O2 R2 Z2 hDn;refine tC 7 ?_;refine tC 8 ?_;refine tC 9 ?_
   try simp only[sD]
   refine rC 11 λK2 hK=>?_;have q0:W3.cell? ⟨D,0,none⟩=some (.int .i64 0):=z3.c 0;have q1:W3.cell? ⟨D,1,none⟩=some (.int .u64 0):=z3.c 1;have q2:W3.cell? ⟨D,2,none⟩=some (.int .u64 0):=z3.c 2;have q3:W3.cell? ⟨D,3,none⟩=some (.int .u64 0):=z3.c 3;have q4:W3.cell? ⟨D,4,none⟩=some (.int .i64 0):=z3.c 4;have q5:W3.cell? ⟨D,5,none⟩=some (.int .i64 0):=z3.c 5;have q6:W3.cell? ⟨D,6,none⟩=some (.int .i64 0):=z3.c 6;have g0:=z3.frozen 0;have g1:=z3.frozen 1;have g2:=z3.frozen 2;have g3:=z3.frozen 3;have g4:=z3.frozen 4;have g5:=z3.frozen 5;have g6:=z3.frozen 6;go_simp;obtain⟨W4,ji⟩:=nE ((((((((W3.setCell ⟨D,0,none⟩ (.int .i64 k)).setCell ⟨D,1,none⟩ (.int .u64 sq)).setCell ⟨D,2,none⟩ (.int .u64 u)).setCell ⟨D,3,none⟩ (.int .u64 v)).setCell ⟨D,4,none⟩ (.int .i64 x)).setCell ⟨D,5,none⟩ (.int .i64 t)).setCell ⟨D,6,none⟩ (.int .i64 X)));rw[ji]
   have z4:Row W4 D 7 (λi=>(#[Value.int .i64 k,.int .u64 sq,.int .u64 u,.int .u64 v,.int .i64 x,.int .i64 t,.int .i64 X]:Array Value).getD i undef):=by
    rw[←ji];refine(((((((z3.set 0 _).set 1 _).set 2 _).set 3 _).set 4 _).set 5 _).set 6 _).congr λi hi=>?_
    match i,hi with
    |0,_ |1,_ |2,_ |3,_ |4,_ |5,_ |6,_=>rfl
    |k+7,e=>exact absurd e om
   have o4:Off [D] W3 W4:=by
    rw[←ji];exact((((((((Off.refl [D] W3).setCell (p:=⟨D,0,none⟩) sj _).setCell (p:=⟨D,1,none⟩) sj _).setCell (p:=⟨D,2,none⟩) sj _).setCell (p:=⟨D,3,none⟩) sj _).setCell (p:=⟨D,4,none⟩) sj _).setCell (p:=⟨D,5,none⟩) sj _).setCell (p:=⟨D,6,none⟩) sj _)
   have hBD:B≠D:=by have:=R3.out.lt;have:=HB.out;have:=HDB.out.2;exact HBD.out
   have r4:=R3.out.of_block (o4.block B R3.out.lt (by simpa using hBD));have k4:=KW3.out.keep (w':=W4) λj hj=>o4.block j (KW3.out.lt j hj) (by simp;intro e;exact ahl.out (e▸hj))
   have e5:W4.cell? ⟨G.b,5,none⟩=some (.pointer (some ⟨G.sf.b,0,none⟩)):=by rw[←HB2.out];exact k4.c5
   refine hK.out _ _ ⟨e5,r4.c 0,r4.c 1,r4.c 2,r4.c 3⟩ (λHS=>?_);have Zf:=jh k4;have R4:=jh r4;have Z4:=jh z4;have BO4:=jh (show Bo (G.bl c.E) (({ G with sf:=F2 }:dW).bl c.E) w W4 from⟨Zz.out.off.trans o4 (λj hj=>.inr (by simp at hj;rw[hj];exact HDB.out.2)),Zz.out.fU⟩);have HDN:=jh ahl.out;clear hK o4 ji r4 k4 z4 e5 hBD q0 q1 q2 q3 q4 q5 q6 g0 g1 g2 g3 g4 g5 g6 z3 R3 KW3 Zz;refine tC 12 ?_
   try simp only[sD]
   exact wl (TL W4 D k sq F2 s2 ⟨Zf.out,R4.out,Z4.out,BO4.out,HDN.out,tV.out,HB2.out,HOK.out⟩)
 ·intro W4 D k sq F2 s2 hC;have Zf:=jh hC.1;have R4:=jh hC.2.1;have Z4:=jh hC.2.2.1;have BO4:=jh hC.2.2.2.1;have HDN:=jh hC.2.2.2.2.1;have tV:=jh hC.2.2.2.2.2.1;have HB2:=jh hC.2.2.2.2.2.2.1;have HOK:=jh hC.2.2.2.2.2.2.2;have HS:True:=trivial;clear hC;refine dD ⟨rfl,?_⟩;clear HS;obtain⟨N4,bg4,aqp,Yu⟩:=Zf.out.st;have HG:=jh (qZ (Yu.off (w':=W4.drew) (Off.refl _ _).drew) u);rw[show(({ G with sf:=F2 }:dW).sf).b=G.sf.b from HB2.out] at HG
  have e5:W4.drew.cell? ⟨G.b,5,none⟩=some (.pointer (some ⟨G.sf.b,0,none⟩)):=by rw[←HB2.out];exact Zf.out.c5
  have HS:W4.drew.cell? ⟨G.b,5,none⟩=some (.pointer (some ⟨G.sf.b,0,none⟩))∧W4.drew.cell? ⟨B,0,none⟩=some (.int .u64 u):=⟨e5,R4.out.c 0⟩;clear Yu e5;go_wp2;refine aj (λw'=>w'.cell? ⟨G.b,5,none⟩=some (.pointer (some ⟨G.sf.b,0,none⟩))∧w'.cell? ⟨B,0,none⟩=some (.int .u64 u)) (by kernel_rfl) ?_;refine tC 0 ?_;refine tC 1 ?_;refine tC 2 ?_;refine tC 3 ?_;refine tC 4 ?_;refine tC 5 ?_
  try simp only[sD]
  refine rC 6 λK2 hK=>?_;go_simp;apply mO HG;rintro e W5 ⟨q,rfl,hq,o5⟩
  obtain⟨a,rfl⟩:∃a,q=some a:=by
   cases q with
   |some a=>exact⟨a,rfl⟩
   |none=>
    exfalso;obtain⟨i,h1,h2⟩:=(tV.out.has u).2 (.inl (.inr rfl));exact hq.no rfl i h1 h2
  unfold mh;dsimp only
  have Ec:Off [] W4 W5:=(Off.refl _ _).drew.trans o5 λj hj=>by cases hj
  have k5:=Zf.out.off Ec;have r5:=R4.out.of_block (Ec.block B R4.out.lt sj);have z5:=Z4.out.of_block (Ec.block D Z4.out.lt sj)
  have e5:W5.cell? ⟨G.b,5,none⟩=some (.pointer (some ⟨G.sf.b,0,none⟩)):=by rw[←HB2.out];exact k5.c5
  refine hK.out _ _ ⟨e5,r5.c 0⟩ (λHS=>?_);have KW5:=jh k5;have R5:=jh r5;have Z5:=jh z5;have BO5:=jh (BO4.out.trans (Bo.bA Ec));have HGA:=jh (hq.yes a rfl);clear hK HG hq o5 Ec k5 r5 z5 e5 Zf R4 Z4 BO4;refine tC 7 ?_;refine tC 8 ?_;refine tC 9 ?_;refine tC 10 ?_;refine tC 11 ?_
  try simp only[sD]
  refine dD ⟨rfl,?_⟩;clear HS;obtain⟨N5,bg5,aeJ,st5⟩:=KW5.out.st;have HG:=jh (qZ (st5.off (w':=W5.drew) (Off.refl _ _).drew) v);rw[show(({ G with sf:=F2 }:dW).sf).b=G.sf.b from HB2.out] at HG
  have e5:W5.drew.cell? ⟨G.b,5,none⟩=some (.pointer (some ⟨G.sf.b,0,none⟩)):=by rw[←HB2.out];exact KW5.out.c5
  have HS:W5.drew.cell? ⟨G.b,5,none⟩=some (.pointer (some ⟨G.sf.b,0,none⟩))∧W5.drew.cell? ⟨B,1,none⟩=some (.int .u64 v):=⟨e5,R5.out.c 1⟩;clear st5 e5;go_wp2;refine aj (λw'=>w'.cell? ⟨G.b,5,none⟩=some (.pointer (some ⟨G.sf.b,0,none⟩))∧w'.cell? ⟨B,1,none⟩=some (.int .u64 v)) (by kernel_rfl) ?_;refine tC 0 ?_;refine tC 1 ?_;refine tC 2 ?_;refine tC 3 ?_;refine tC 4 ?_;refine tC 5 ?_
  try simp only[sD]
  refine rC 6 λK2 hK=>?_;go_simp;apply mO HG;rintro e W6 ⟨q,rfl,hq,o5⟩
  obtain⟨b,rfl⟩:∃b,q=some b:=by
   cases q with
   |some a=>exact⟨a,rfl⟩
   |none=>
    exfalso;obtain⟨i,h1,h2⟩:=(tV.out.has v).2 (.inr rfl);exact hq.no rfl i h1 h2
  unfold mh;dsimp only
  have Ec:Off [] W5 W6:=(Off.refl _ _).drew.trans o5 λj hj=>by cases hj
  have k6:=KW5.out.off Ec;have r6:=R5.out.of_block (Ec.block B R5.out.lt sj);have z6:=Z5.out.of_block (Ec.block D Z5.out.lt sj)
  have e5:W6.cell? ⟨G.b,5,none⟩=some (.pointer (some ⟨G.sf.b,0,none⟩)):=by rw[←HB2.out];exact k6.c5
  refine hK.out _ _ ⟨e5,r6.c 1⟩ (λHS=>?_);have KW6:=jh k6;have Z6:=jh z6;have BO6:=jh (BO5.out.trans (Bo.bA Ec));have FX:=jh (hq.yes b rfl);clear hK HG hq o5 Ec k6 r6 z6 e5 KW5 R5 Z5 BO5;refine tC 7 ?_;refine tC 8 ?_;refine tC 9 ?_;refine tC 10 ?_;refine tC 11 ?_
  try simp only[sD]
  refine dD ⟨rfl,?_⟩;clear HS;obtain⟨L6,sc6,hL6⟩:=KW6.out.sc;have hkE:k<c.E:=HOK.out.ult k (by rw[tV.out.U];simp);have HSE:=jh (SH (t:=X) (sc6.keep (w':=W6.drew) λ_ _=>rfl) (oC WS.out.cf.E) hkE (λe he c1=>tV.out.new (by rw[←c1];exact((hL6 e).1 he).1)));have HS:W6.drew.cell? ⟨G.b,6,none⟩=some (.pointer (some ⟨G.eb,0,none⟩))∧W6.drew.cell? ⟨D,0,none⟩=some (.int .i64 k):=⟨KW6.out.c6,Z6.out.c 0⟩;have tT:=jh hL6;have HKE:=jh hkE;clear sc6 hL6 hkE;go_wp2;refine aj (λw'=>w'.cell? ⟨G.b,6,none⟩=some (.pointer (some ⟨G.eb,0,none⟩))∧w'.cell? ⟨D,0,none⟩=some (.int .i64 k)) (by kernel_rfl) ?_;refine tC 0 ?_;refine tC 1 ?_;refine tC 2 ?_;refine tC 3 ?_;refine tC 4 ?_;refine tC 5 ?_;refine tC 6 ?_
  try simp only[sD]
  refine rC 7 λK2 hK=>?_;go_simp;apply mO HSE;rintro e W7 ⟨rfl,h7,L7,sc7,hL7,Cq,_⟩;dsimp only
  obtain⟨k7,b7⟩:=(KW6.out.off (w':=W6.drew) (Off.refl _ _).drew).Yv (ef':=s2.ex) (U':=s2.U) ⟨L7,sc7,λe=>by
   rw[hL7,tT.out e,tV.out.U];constructor
   ·rintro(⟨q1,q2⟩ |q)
    ·have hne:e.i≠k:=λc1=>tV.out.new (by rw[←c1];exact q1);exact⟨List.mem_cons_of_mem _ q1,by rw[(tV.out.old _ hne).2];exact q2⟩
    ·subst q;exact⟨List.mem_cons_self ..,tV.out.at_.2.symm⟩
   ·rintro⟨q1,q2⟩
    rcases List.mem_cons.1 q1 with q |q
    ·right
     cases e with |mk ei ek=>cases q;rw[tV.out.at_.2] at q2;cases q2;rfl
    ·have hne:e.i≠k:=λc1=>tV.out.new (by rw[←c1];exact q);rw[(tV.out.old _ hne).2] at q2
     exact .inl ⟨q,q2⟩⟩ Cq
  have z7:=Z6.out.of_block (b7.off.block D Z6.out.lt HDN.out);refine hK.out _ _ ⟨k7.c6,z7.c 0⟩ (λHS=>?_)
  have hDn:D∉({ G with sf:=F2,eh:=h7 }:dW).bl c.E:=λc1=>(b7.fU D c1).elim HDN.out λe=>by have:=Z6.out.lt;have e':W6.heap.size≤D:=e;omega
  have KW7:=jh k7;have Z7:=jh z7;have BO7:=jh (BO6.out.trans ((Bo.bA ((Off.refl _ _).drew)).trans b7));have amk:=jh hDn;clear hK HSE sc7 hL7 Cq k7 b7 z7 hDn KW6 Z6 BO6 tT HDN;refine dD ⟨rfl,?_⟩;clear HS
  have hin:∀j∈s2.TU,j<c.V:=λj hj=>by
   obtain⟨_,_,_,st⟩:=KW7.out.st;obtain⟨_,_,_,ok⟩:=st.tb;exact Nat.lt_of_lt_of_le (ok.lt j hj) ok.le
  have hab:a≠b:=λe=>by
   have h1:=HGA.out.2;have h2:=FX.out.2;rw[e,h2] at h1;exact(Co HC.out).1 h1.symm
  have hlk:f.lv k=false:=by
   cases q:f.lv k with
   |false=>rfl
   |true=>exact absurd ((WS.out.wn.lv k).1 q) tV.out.new
  have HFA:=jh (SE (x:=X) (KW7.out.fo.keep (w':=W7.drew) λ_ _=>rfl) WS.out.wn.fo hlk HKE.out (hin a HGA.out.1) (hin b FX.out.1) hab HF.out (oD WS.out.cf.E WS.out.cf.V));have HS:W7.drew.cell? ⟨G.b,7,none⟩=some (.pointer (some ⟨G.ff.b,0,none⟩))∧W7.drew.cell? ⟨D,0,none⟩=some (.int .i64 k):=⟨KW7.out.c7,Z7.out.c 0⟩;clear hin hab hlk;go_wp2;refine aj (λw'=>w'.cell? ⟨G.b,7,none⟩=some (.pointer (some ⟨G.ff.b,0,none⟩))∧w'.cell? ⟨D,0,none⟩=some (.int .i64 k)) (by kernel_rfl) ?_;refine tC 0 ?_;refine tC 1 ?_;refine tC 2 ?_;refine tC 3 ?_;refine tC 4 ?_;refine tC 5 ?_;refine tC 6 ?_;refine tC 7 ?_;refine tC 8 ?_
  try simp only[sD]
  refine rC 9 λK2 hK=>?_;go_simp;apply mO HFA;rintro e W8 ⟨rfl,F8,f8,m8,ok8,hb8,hf8,bo8⟩;dsimp only;obtain⟨k8,b8⟩:=(KW7.out.off (w':=W7.drew) (Off.refl _ _).drew).Qc m8 hb8 bo8;have z8:=Z7.out.of_block (b8.off.block D Z7.out.lt amk.out)
  have e7:W8.cell? ⟨G.b,7,none⟩=some (.pointer (some ⟨G.ff.b,0,none⟩)):=by rw[←hb8];exact k8.c7
  refine hK.out _ _ ⟨e7,z8.c 0⟩ (λHS=>?_);have KW8:=jh k8;have BO8:=jh (BO7.out.trans ((Bo.bA ((Off.refl _ _).drew)).trans b8));have HOF:=jh (And.intro ok8 hf8);clear hK HFA m8 ok8 hb8 hf8 bo8 k8 b8 z8 e7 KW7 Z7 BO7;refine dD ⟨rfl,?_⟩;clear HS;obtain⟨ad1,afo⟩:=nE (ad+1);have wa:(ad:Int)+1=(ad1:Int):=om
  have wad:IntKind.u64.wrap (ad1:Int)=(ad1:Int):=by have:=HA.out;simp[IntKind.wrap,IntKind.bits,IntKind.signed];omega
  have c8:=KW8.out.c8;have f8c:=KW8.out.fz 8;obtain⟨k9,b9⟩:=KW8.out.ad2 ad1;have K9:=jh k9;have BO9:=jh (BO8.out.trans b9);have HAD:=jh afo;clear k9 b9 afo;go_wp2;go_end0;rw[HAD.out];obtain⟨T,rfl⟩:=HOF.out.2;have hwn:=WS.out.wn.ins tV.out HOK.out HOF.out.1 HGA.out FX.out;refine⟨rfl,_,s2,⟨_,K9.out,⟨WS.out.cf,hwn,λj hj=>?_⟩⟩,rfl,BO9.out,k,tV.out⟩;rw[tV.out.U] at hj
  rcases List.mem_cons.1 hj with e |e
  ·rw[e,tV.out.at_.1];exact⟨Zk.out.1,Zk.out.2,HT.out.1,HT.out.2⟩
  ·rw[(tV.out.old j λc1=>tV.out.new (c1▸e)).1];exact WS.out.wf j e
end
section
variable {w:World} {G:dW} {c:Cf} {nw ex:Int} {ad:Nat} {s:St}
def amB (w:World) (G:dW) (c:Cf) (nw:Int) (ad:Nat) (s:St) (u v x t:Int) (e:Ending) (w':World):Prop:=
 ∃er,e=.returned (.int .i64 er)∧∃G' nw' ad' Kk s',tO w' G' c nw' ad' Kk s'∧ad'≤ad+1∧G'.b=G.b∧Bo (G.bl c.E) (G'.bl c.E) w w'∧(u≠v→Ky c.win nw t=0→gQ c.E c.V s u v=0→s.U=[]→er=0∧∃k,s'.U=[k]∧s'.rc k=⟨u,v,t,x⟩)
theorem Dl (h:tO w G c nw ad ex s) (u v x t:Int) (hu:(Lit.int .u64 u).wf=true) (hv:(Lit.int .u64 v).wf=true) (hx:dM x) (ht:dM t) (had:ad≤1000000):
  Calls Tryz.prog 8 #[.pointer (some ⟨G.b,0,none⟩),.agg #[.int .u64 u,.int .u64 v,.int .i64 x,.int .i64 t]] w (amB w G c nw ad s u v x t):=by
 obtain⟨B,hB⟩:=nE w.heap.size;obtain⟨W0,hW0⟩:∃W,w.alloc (.cells #[.int .u64 u,.int .u64 v,.int .i64 x,.int .i64 t] 36)=W:=⟨_,rfl⟩
 have o0:Off [] w W0:=by rw[←hW0];exact(Off.refl _ _).alloc _
 have r0:Row W0 B 4 (λi=>(#[Value.int .u64 u,.int .u64 v,.int .i64 x,.int .i64 t]:Array Value).getD i undef):=by
  rw[←hW0,←hB];exact Row.lit _ _ _ (Nat.le_refl _) lC
 have h0:=h.off o0;obtain⟨f,k0,ws⟩:=h0;have HV:=jh (gM k0);have HB:=jh hB;have HW0:=jh hW0;have O0:=jh o0;have R0:=jh r0;have H0:=jh (h.off o0);have HT:=jh (And.intro hx (And.intro ht (And.intro had (And.intro hu hv))));have K0:=jh k0;have WS:=jh ws;have oP:=jh h.lt;have a0:W0.cell? ⟨B,0,none⟩=some (.int .u64 u):=r0.c 0;have a1:W0.cell? ⟨B,1,none⟩=some (.int .u64 v):=r0.c 1;have a3:W0.cell? ⟨B,3,none⟩=some (.int .i64 t):=r0.c 3;clear k0 ws h o0 r0 hW0 hB hx ht had hu hv;go_in;go_wp2_with fail;rw[HW0.out,HB.out];apply mO HV;rintro e w1 ⟨rfl,hw1⟩;obtain rfl:=hw1
 by_cases huv:u=v
 ·subst huv;have d1:((u:Int)==u)=true:=sj;go_wp2;go_ret;exact⟨9,rfl,G,nw,ad,ex,s,H0.out,om,rfl,Bo.bA O0.out,λh=>absurd rfl h⟩
 ·have d1:((u:Int)==v)=false:=by simp;exact huv
  have N9:=jh huv;have HS:w1.drew.cell? ⟨G.b,4,none⟩=some (.pointer (some ⟨G.cb,0,none⟩))∧w1.drew.cell? ⟨B,3,none⟩=some (.int .i64 t):=⟨K0.out.c4,a3⟩;have HCK:=jh (vB (w:=w1.drew) K0.out.ck WS.out.cf.win HT.out.2.1);clear huv HV;go_wp2;refine aj (λw'=>w'.cell? ⟨G.b,4,none⟩=some (.pointer (some ⟨G.cb,0,none⟩))∧w'.cell? ⟨B,3,none⟩=some (.int .i64 t)) (by kernel_rfl) ?_;refine tC 0 ?_;refine tC 1 ?_;refine tC 2 ?_;refine tC 3 ?_;refine tC 4 ?_;refine tC 5 ?_
  try simp only[sD]
  refine rC 6 λK2 hK=>?_;go_simp;apply mO HCK;rintro e w' ⟨rfl,hw'⟩;obtain rfl:=hw';dsimp only;refine hK.out _ _ HS (λHS=>?_);clear hK HCK;refine tC 7 ?_
  try simp only[sD]
  refine dD ⟨rfl,?_⟩;clear HS a0 a1 a3;obtain⟨W1,hW1⟩:=nE w1.drew;rw[hW1]
  have oo:Off [] w1 W1:=by rw[←hW1];exact(Off.refl _ _).drew
  have H1:=jh (H0.out.off oo);have O1:=jh (O0.out.trans oo λj hj=>by cases hj);have R1:=jh (R0.out.of_block (oo.block B R0.out.lt sj));clear hW1 oo H0 O0 K0;obtain⟨ck,hck⟩:=nE (Ky c.win nw t);rw[hck];have HCE:=jh hck
  by_cases hz:ck=0
  ·subst hz;obtain⟨f1,k1,_⟩:=H1.out;have c8:=k1.c8;have aks:=HT.out.2.2.1;have d2:decide ((ad:Int)≥9223372036854775807)=false:=dF om;have d3:decide ((9223372036854775807:Int)≤ad)=false:=dF om;have d4:decide (9223372036854775807≤ad)=false:=dF om;have a0:W1.cell? ⟨B,0,none⟩=some (.int .u64 u):=R1.out.c 0;have a1:W1.cell? ⟨B,1,none⟩=some (.int .u64 v):=R1.out.c 1;have a2:W1.cell? ⟨B,2,none⟩=some (.int .i64 x):=R1.out.c 2;have a3:W1.cell? ⟨B,3,none⟩=some (.int .i64 t):=R1.out.c 3;have HRM:=jh (Lg H1.out u v x t);clear hck k1 aks;go_wp2_with fail;apply mO HRM;rintro e w2 ⟨er,rfl,o2,hr1,hr2⟩
   have o02:Off [] w w2:=O1.out.trans o2 λj hj=>by cases hj
   have r2:=R1.out.of_block (o2.block B R1.out.lt sj);have H2:=jh (H1.out.off o2);have O2:=jh o02;have R2:=jh r2;have HR:=jh (And.intro hr1 hr2);have b0:w2.cell? ⟨B,0,none⟩=some (.int .u64 u):=r2.c 0;have b1:w2.cell? ⟨B,1,none⟩=some (.int .u64 v):=r2.c 1;have b2:w2.cell? ⟨B,2,none⟩=some (.int .i64 x):=r2.c 2;have b3:w2.cell? ⟨B,3,none⟩=some (.int .i64 t):=r2.c 3;clear o2 hr1 hr2 o02 r2 a0 a1 a2 a3 c8 HRM H1 O1 R1
   by_cases hz:er=0
   ·subst hz;have HTK:=jh (zq H2.out HT.out.2.1);go_wp2_with fail;apply mO HTK;rintro e w3 ⟨Nn,rfl,G3,nw3,ex3,s3,h3,hb3,Ao,hcase⟩
    obtain⟨_,_,hnw,tk⟩:Ky c.win nw t=0∧Nn=0∧nw3=t∧TkR s s3 t:=by
     rcases hcase with q |q
     ·exact q
     ·exact absurd HCE.out q.1
    subst hnw;have Kh:B∉G.bl c.E:=λc1=>oD (oP.out B c1) HB.out;have r3:=R2.out.of_block (Ao.off.block B R2.out.lt Kh);have d0:w3.cell? ⟨B,0,none⟩=some (.int .u64 u):=r3.c 0;have d1':w3.cell? ⟨B,1,none⟩=some (.int .u64 v):=r3.c 1;have d2':w3.cell? ⟨B,2,none⟩=some (.int .i64 x):=r3.c 2;have d3':w3.cell? ⟨B,3,none⟩=some (.int .i64 nw3):=r3.c 3
    have hfit:nw3+c.win≤9223372036854775807:=by
     have:=HCE.out;unfold Ky at this
     by_cases q:nw3<nw
     ·rw[if_pos q] at this;omega
     ·rw[if_neg q] at this
      by_cases q2:nw3+c.win≤9223372036854775807
      ·exact q2
      ·rw[if_neg q2] at this;omega
    have aeS:jD c.E s3:=by obtain⟨_,_,ws3⟩:=h3;exact ws3.wn.st
    have tV:=jh (Dk h3 u v x nw3 (HR.out.1 (by trivial) s3 tk aeS) hfit HT.out.2.2.2.1 HT.out.2.2.2.2 HT.out.1 HT.out.2.1 HT.out.2.2.1);rw[hb3] at tV;have Zz:=jh ((Bo.bA O2.out).trans Ao);have TK:=jh tk;have HB3:=jh hb3;clear h3 hb3 Ao hcase tk Kh r3 hfit aeS b0 b1 b2 b3 HTK H2 O2 R2;go_wp2_with fail;apply mO tV;rintro e w4 ⟨rfl,G4,s4,k,h4,hb4,CZ,ins⟩;have H4:=jh h4;have B4:=jh (And.intro hb4 (Zz.out.trans CZ));have IN:=jh ins;clear h4 hb4 CZ ins d0 d1' d2' d3' tV;go_wp2;go_ret;refine⟨0,rfl,G4,nw3,ad+1,ex3,s4,H4.out,Nat.le_refl _,B4.out.1,B4.out.2,λ_ _ _ hU=>⟨rfl,k,?_,IN.out.at_.1⟩⟩;rw[IN.out.U]
    congr 1
    cases hs:s3.U with
    |nil=>rfl
    |cons q T=>
     have:=(TK.out.U q).1 (by rw[hs];simp);rw[hU] at this;cases this.1
   ·have d5:((er:Int)==0)=false:=by simp;exact hz
    have HZ:=jh hz;clear hz;go_wp2;go_ret;exact⟨er,rfl,G,nw,ad,ex,s,H2.out,om,rfl,Bo.bA O2.out,λ_ _ h=>absurd (HR.out.2 h) HZ.out⟩
  ·have d2:((ck:Int)==0)=false:=by simp;exact hz
   have HZ:=jh hz;clear hck hz;go_wp2;go_ret;exact⟨ck,rfl,G,nw,ad,ex,s,H1.out,om,rfl,Bo.bA O1.out,λ_ h=>absurd (HCE.out.symm.trans h) HZ.out⟩
end
def agm (w:World) (s:St) (e:Ending) (w':World):Prop:=
 ∃g cap l,e=.returned (.slice (some ⟨g,0,none⟩) (s.TU.length:Nat) cap)∧bE w.heap.size (.slice (some ⟨g,0,none⟩) (s.TU.length:Nat) cap) l w'∧l.Perm (s.TU.map (aJ s.ids))∧l.Pairwise (·≤·)∧Off [] w w'
section
variable {w:World} {F:bD} {E V N bg:Nat} {s:St} {inc:Int→List Nat}
theorem PE (h:kY w F E V N bg s inc) (hV:V≤12):
  Calls Tryz.prog 185 #[.pointer (some ⟨F.b,0,none⟩)] w (agm w s):=by
 have HV:=jh (iQ h);have c4:=h.c4;have HL:=jh (LG h.tb om (Nat.le_trans h.Jo hV));clear h hV;go_in;go_wp2_with fail;apply mO HV;rintro e w1 ⟨rfl,rfl⟩;go_wp2_with fail;apply mO HL;rintro e w2 ⟨g,cap,l,rfl,h1⟩;have H1:=jh h1;clear h1 HL;go_wp2;go_ret;exact⟨g,cap,l,rfl,H1.out⟩
end
section
variable {w:World} {G:dW} {c:Cf} {nw ex:Int} {ad:Nat} {s:St} {ef:Nat→Int} {U:List Nat} {f:Fs}
theorem OB (h:fQ w G c nw ad ex s ef U f) (hV:c.V≤12):
  Calls Tryz.prog 159 #[.pointer (some ⟨G.b,0,none⟩)] w (agm w s):=by
 have HV:=jh (gM h);have c5:=h.c5;obtain⟨N,bg,inc,st⟩:=h.st;have HL:=jh (PE st hV);clear h hV st;go_in;go_wp2_with fail;apply mO HV;rintro e w1 ⟨rfl,rfl⟩;go_wp2_with fail;apply mO HL;rintro e w2 ⟨g,cap,l,rfl,h1⟩;have H1:=jh h1;clear h1 HL;go_wp2;go_ret;exact⟨g,cap,l,rfl,H1.out⟩
def qc (ad:Nat) (ex:Int):Int:=IntKind.u64.wrap ((ad:Int)+ex)
theorem Df (h:fQ w G c nw ad ex s ef U f):
  Calls Tryz.prog 69 #[.pointer (some ⟨G.b,0,none⟩)] w λe w'=>e=.returned (.int .u64 (qc ad ex))∧w'=w.drew:=by
 have HV:=jh (gM h);have HS:w.drew.cell? ⟨G.b,8,none⟩=some (.int .u64 ad)∧w.drew.cell? ⟨G.b,9,none⟩=some (.int .u64 ex):=⟨h.c8,h.c9⟩;obtain⟨y,hy⟩:=nE (IntKind.u64.wrap ((ad:Int)+ex));have HY:=jh hy;clear h;go_in;go_wp2_with fail;apply mO HV;rintro e w1 ⟨rfl,rfl⟩;go_wp2;refine aj (λw'=>w'.cell? ⟨G.b,8,none⟩=some (.int .u64 ad)∧w'.cell? ⟨G.b,9,none⟩=some (.int .u64 ex)) (by kernel_rfl) ?_;refine tC 0 ?_;refine tC 1 ?_;refine tC 2 ?_;refine tC 3 ?_;refine tC 4 ?_;refine tC 5 ?_;refine tC 6 ?_;refine tC 7 ?_;refine tC 8 ?_;refine tC 9 ?_
 try simp only[sD]
 refine dD ⟨rfl,?_⟩;clear HS hy;go_wp2;go_ret;exact⟨by unfold qc;rw[HY.out];rfl,rfl⟩
theorem Li (h:fQ w G c nw ad ex s ef U f):
  Calls Tryz.prog 20 #[.pointer (some ⟨G.b,0,none⟩)] w λe w'=>e=.returned (.agg #[.int .i64 c.win,.int .i64 (c.E:Nat),.int .i64 (c.V:Nat),.int .i64 c.dr])∧Off [] w w':=by
 obtain⟨D,hD⟩:=nE w.heap.size;obtain⟨W0,hW0⟩:∃W,w.alloc (.cells #[.int .i64 0,.int .i64 0,.int .i64 0,.int .i64 0] 23)=W:=⟨_,rfl⟩
 have o0:Off [] w W0:=by rw[←hW0];exact(Off.refl _ _).alloc _
 have z0:Row W0 D 4 (λ_=>.int .i64 0):=by
  rw[←hW0,←hD];exact Row.lit _ _ _ (Nat.le_refl _) lC
 have k0:=h.off o0;have HV:=jh (gM k0);have c0:=k0.c0;have c1:=k0.c1;have c2:=k0.c2;have c3:=k0.c3;have q0:=z0.c 0;have q1:=z0.c 1;have q2:=z0.c 2;have q3:=z0.c 3;have g0:=z0.frozen 0;have g1:=z0.frozen 1;have g2:=z0.frozen 2;have g3:=z0.frozen 3;have z4:=(((z0.set 0 (.int .i64 c.win)).set 1 (.int .i64 c.E)).set 2 (.int .i64 c.V)).set 3 (.int .i64 c.dr);obtain⟨W4,ji⟩:=nE ((((W0.setCell ⟨D,0,none⟩ (.int .i64 c.win)).setCell ⟨D,1,none⟩ (.int .i64 c.E)).setCell ⟨D,2,none⟩ (.int .i64 c.V)).setCell ⟨D,3,none⟩ (.int .i64 c.dr));rw[ji] at z4
 have O4:=jh (show Off [] w W4 by
  rw[←ji]
  exact(((o0.cK (p:=⟨D,0,none⟩) (Nat.le_of_eq hD) _).cK (p:=⟨D,1,none⟩) (Nat.le_of_eq hD) _).cK (p:=⟨D,2,none⟩) (Nat.le_of_eq hD) _).cK (p:=⟨D,3,none⟩) (Nat.le_of_eq hD) _)
 have s0:W4.cell? ⟨D,0,none⟩=some (.int .i64 c.win):=z4.c 0;have s1:W4.cell? ⟨D,1,none⟩=some (.int .i64 c.E):=z4.c 1;have s2:W4.cell? ⟨D,2,none⟩=some (.int .i64 c.V):=z4.c 2;have s3:W4.cell? ⟨D,3,none⟩=some (.int .i64 c.dr):=z4.c 3;have HW0:=jh hW0;have HD:=jh hD;have Oq:=jh ji;have HSS:=jh (And.intro s0 (And.intro s1 (And.intro s2 s3)));clear k0 z0 z4 o0 hW0 hD ji h s0 s1 s2 s3;go_in;go_wp2_with fail;rw[HW0.out,HD.out];apply mO HV;rintro e w1 ⟨rfl,hw1⟩;obtain rfl:=hw1;go_wp2_with fail;rw[Oq.out];obtain⟨s0,s1,s2,s3⟩:=HSS.out;refine bodyPost_ret (v:=.agg #[.int .i64 c.win,.int .i64 c.E,.int .i64 c.V,.int .i64 c.dr]) (by simp[results,Tryz.results20,go_sem,s0,s1,s2,s3]) rfl ?_;exact⟨rfl,O4.out⟩
def Xt:Option Nat→Option Nat→Value
 |some a,some b=>.tuple #[.int .i64 (a:Nat),.int .i64 (b:Nat),.int .i64 0]
 |_,_=>.tuple #[.int .i64 0,.int .i64 0,.int .i64 13]
theorem Lh (h:fQ w G c nw ad ex s ef U f) (u v:Int):
  Calls Tryz.prog 113 #[.pointer (some ⟨G.b,0,none⟩),.int .u64 u,.int .u64 v] w λe w'=>∃a b,e=.returned (Xt a b)∧Oe s.ids s.TU u a∧Oe s.ids s.TU v b∧Off [] w w':=by
 have HV:=jh (gM h);have c5:=h.c5;obtain⟨N,bg,inc,st⟩:=h.st;have HI:=jh (qZ st u);have H:=jh h;clear h st;go_in;go_wp2_with fail;apply mO HV;rintro e w1 ⟨rfl,rfl⟩;go_wp2_with fail;apply mO HI;rintro e w2 ⟨ra,rfl,ga,o2⟩;have k2:=H.out.off o2;have c5:=k2.c5;obtain⟨N2,bg2,aaA,st2⟩:=k2.st;have HJ:=jh (qZ st2 v);have O2:=jh o2;have GA:=jh ga;clear k2 st2 o2 ga HI HV
 cases ra with
 |none=>
  unfold mh;go_wp2_with fail;apply mO HJ;rintro e w3 ⟨rb,rfl,gb,o3⟩;have O3:=jh (O2.out.trans o3 λj hj=>by cases hj);have GB:=jh gb;clear o3 gb HJ c5
  cases rb with
  |none=>
   unfold mh;go_wp2
   go_ret3
   exact⟨none,none,rfl,GA.out,GB.out,O3.out⟩
  |some b=>
   unfold mh;go_wp2
   go_ret3
   exact⟨none,some b,rfl,GA.out,GB.out,O3.out⟩
 |some a=>
  unfold mh;go_wp2_with fail;apply mO HJ;rintro e w3 ⟨rb,rfl,gb,o3⟩;have O3:=jh (O2.out.trans o3 λj hj=>by cases hj);have GB:=jh gb;clear o3 gb HJ c5
  cases rb with
  |none=>
   unfold mh;go_wp2
   go_ret3
   exact⟨some a,none,rfl,GA.out,GB.out,O3.out⟩
  |some b=>
   unfold mh;go_wp2
   go_ret3
   exact⟨some a,some b,rfl,GA.out,GB.out,O3.out⟩
theorem Lf (h:tO w G c nw ad ex s) (u:Int):
  Calls Tryz.prog 68 #[.pointer (some ⟨G.b,0,none⟩),.int .u64 u] w λe w'=>∃z er,e=.returned (.tuple #[.int .i64 z,.int .i64 er])∧(er=0∧s.has u∨er=13∧¬s.has u)∧tO w' G c nw ad ex s∧Bo (G.bl c.E) (G.bl c.E) w w':=by
 obtain⟨f,k,ws⟩:=h;have HE:=jh (Lh k u u);have K:=jh k;have WS:=jh ws;clear k ws;go_in;go_wp2_with fail;apply mO HE;rintro e w1 ⟨ra,rb,rfl,ga,gb,o1⟩;have O1:=jh o1;have GA:=jh ga;have GB:=jh gb;clear o1 ga gb HE
 cases ra with
 |none=>
  unfold Xt;go_wp2;go_ret2;exact⟨_,_,rfl,.inr ⟨rfl,λ⟨i,h1,h2⟩=>GA.out.no rfl i h1 h2⟩,⟨f,K.out.off O1.out,WS.out⟩,Bo.bA O1.out⟩
 |some a=>
  cases rb with
  |none=>
   unfold Xt;go_wp2;go_ret2;exact⟨_,_,rfl,.inr ⟨rfl,λ⟨i,h1,h2⟩=>GB.out.no rfl i h1 h2⟩,⟨f,K.out.off O1.out,WS.out⟩,Bo.bA O1.out⟩
  |some b=>
   have k1:=K.out.off O1.out;have c7:=k1.c7
   have hin:a<c.V:=by
    obtain⟨_,_,_,st⟩:=k1.st;obtain⟨_,_,_,ok⟩:=st.tb;exact Nat.lt_of_lt_of_le (ok.lt a (GA.out.yes a rfl).1) ok.le
   have HF:=jh (Ng k1.fo hin (oD WS.out.cf.E WS.out.cf.V));have K1:=jh k1;clear k1 hin;unfold Xt;go_wp2_with fail;apply mO HF;rintro e w2 ⟨⟨z,rfl⟩,m2,Iz⟩;obtain⟨k2,b2⟩:=K1.out.Qc m2 rfl Iz;have K2:=jh k2;have B2:=jh ((Bo.bA O1.out).trans b2);clear k2 b2 m2 Iz HF c7;go_wp2;go_ret2;exact⟨_,_,rfl,.inl ⟨rfl,a,(GA.out.yes a rfl).1,(GA.out.yes a rfl).2⟩,⟨f,K2.out,WS.out⟩,B2.out⟩
end
end Go.Proofs.YtpaeogglppampaaGreat
