/- Lemmas of the proof. Conditions: as each one states. -/
import Derived.Test.YtpaeogglppampaaGreatDoorQL
import Derived.Test.YtpaeogglppampaaGreatDoorQM
import Derived.Test.YtpaeogglppampaaGreatDoorQP
set_option maxRecDepth 100000
set_option maxHeartbeats 16000000
namespace Go.Proofs.YtpaeogglppampaaGreatDoor
open Go.RowKit
section
open Go.Shelf
open Go.Sort hiding Below
theorem YH (x:Int) (w:World):Calls Tryz.prog 119 #[.int .u64 x] w λe w'=>e=.returned (.bool false)∧w'=w:=by
 have hz:(x !=x)=false:=sj;go_in;go_wp2;go_ret;exact⟨rfl,rfl⟩
theorem Sq (x y:Int) (w:World):Calls Tryz.prog 72 #[.int .u64 x,.int .u64 y] w λe w'=>e=.returned (.int .i64 (dz x y))∧w'=w:=by
 have H1:=jh (YH x w);have H2:=jh (YH y w)
 rcases Int.lt_trichotomy x y with h |h |h
 ·have hc:=jh (show dz x y=-1 from if_pos h);have k1:decide (x<y)=true:=dP h;clear h;go_in;go_wp2_with fail;apply mO H1;rintro e w' ⟨rfl,rfl⟩;go_wp2_with fail;apply mO H2;rintro e w' ⟨rfl,rfl⟩;go_wp2;go_ret;exact⟨by rw[hc.out];rfl,rfl⟩
 ·have hc:=jh (show dz x y=0 by unfold dz;rw[if_neg om,if_neg om]);have k1:decide (x<y)=false:=dF om;have k2:decide (x>y)=false:=dF om;clear h;go_in;go_wp2_with fail;apply mO H1;rintro e w' ⟨rfl,rfl⟩;go_wp2_with fail;apply mO H2;rintro e w' ⟨rfl,rfl⟩;go_wp2;go_ret;exact⟨by rw[hc.out];rfl,rfl⟩
 ·have hc:=jh (show dz x y=1 by unfold dz;rw[if_neg om,if_pos h]);have k1:decide (x<y)=false:=dF om;have k2:decide (x>y)=true:=dP om;clear h;go_in;go_wp2_with fail;apply mO H1;rintro e w' ⟨rfl,rfl⟩;go_wp2_with fail;apply mO H2;rintro e w' ⟨rfl,rfl⟩;go_wp2;go_ret;exact⟨by rw[hc.out];rfl,rfl⟩
section
variable {w w':World} {F:bD} {E V N bg:Nat} {s:St} {inc:Int→List Nat}
theorem Jq (s:St) (k:Nat):(kY s k).length=7:=rfl
theorem Jp (s:St) (k:Nat):∀v∈kY s k,v.oneCell'=true:=λv hv=>by
 unfold kY at hv;simp only[List.mem_cons,List.not_mem_nil,or_false] at hv
 rcases hv with rfl |rfl |rfl |rfl |rfl |rfl |rfl<;>rfl
theorem QM (s:St) (x y:Nat) (W:World):
  Calls Tryz.prog 71 #[.agg (kY s x).toArray,.agg (kY s y).toArray] W λe w'=>e=.returned (.int .i64 (dz (s.sq x) (s.sq y)))∧∃q os',w'=grow (W.drewN q) os':=by
 have HC:=λW=>jh (Sq (s.sq x) (s.sq y) W);unfold kY;generalize hW:(W.alloc (.cells #[.int .i64 x,.int .u64 (s.sq x),.int .u64 (s.rc x).u,.int .u64 (s.rc x).v,.int .i64 (s.rc x).w,.int .i64 (s.rc x).t,.int .i64 (s.ex x)] 52)).alloc (.cells #[.int .i64 y,.int .u64 (s.sq y),.int .u64 (s.rc y).u,.int .u64 (s.rc y).v,.int .i64 (s.rc y).w,.int .i64 (s.rc y).t,.int .i64 (s.ex y)] 52)=W2;have HW:=jh hW;clear hW;go_in;go_wp2_with fail;refine(HC _).out.mono ?_;rintro e w1 ⟨rfl,rfl⟩;go_wp2;go_ret;refine⟨rfl,0,#[.cells #[.int .i64 x,.int .u64 (s.sq x),.int .u64 (s.rc x).u,.int .u64 (s.rc x).v,.int .i64 (s.rc x).w,.int .i64 (s.rc x).t,.int .i64 (s.ex x)] 52,.cells #[.int .i64 y,.int .u64 (s.sq y),.int .u64 (s.rc y).u,.int .u64 (s.rc y).v,.int .i64 (s.rc y).w,.int .i64 (s.rc y).t,.int .i64 (s.ex y)] 52],?_⟩;rw[alloc_eq_grow,alloc_eq_grow,grow_grow]
 rfl
def NH (s:St) (K:List Nat) (q:Nat):Value:=(kY s (K.getD (q / 7) 0)).getD (q%7) undef
def yE (s:St) (K:List Nat) (i j:Nat):Value:=(kY s (K.getD i 0)).getD j undef
def aen (w:World) (s:St) (e:Ending) (w':World):Prop:=
 ∃v K,e=.returned v∧K.Perm s.U∧(v=.slice none 0 0∧K=[]∨∃g cap,v=.slice (some ⟨g,0,none⟩) (K.length:Nat) cap∧Row w' g (K.length*7) (NH s K)∧w.heap.size≤g)∧Off [] w w'
theorem DV (s:St) (K:List Nat) (i:Nat) (hi:i<K.length*7):(flatK (kY s) 7 K.toArray)[i]! =NH s K i:=by
 have h7:i / 7<K.length:=om;unfold flatK NH;rw[getElem!_pos _ i (by simpa using hi)];simp only[Array.getElem_map,Array.getElem_range];rw[getElem!_pos K.toArray (i / 7) (by simpa using h7)]
 have h2:i%7<(kY s K.toArray[i / 7]).length:=by rw[Jq];omega
 rw[getElem!_pos (kY s K.toArray[i / 7]) (i%7) h2]
 have e:K.getD (i / 7) 0=K.toArray[i / 7]:=by simp[List.getD,h7]
 rw[e,List.getD_eq_getElem?_getD,List.getElem?_eq_getElem h2];rfl
theorem U6 {d d':Array Nat} {n:Nat} (hn:d.size=n) (h:PermIn 0 n d d'):d'.size=n∧d'.toList.Perm d.toList:=by
 obtain⟨h1,_,h3⟩:=h;refine⟨h1.trans hn,?_⟩;rw[show d.extract 0 n=d by rw[←hn];simp,show d'.extract 0 n=d' by rw[←hn,←h1];simp] at h3;exact h3
theorem Ym (s:St):SWO (ltOf (λx y:Nat=>dz (s.sq x) (s.sq y))):=by
 have e:∀x y:Nat,ltOf (λx y:Nat=>dz (s.sq x) (s.sq y)) x y=decide (s.sq x<s.sq y):=λx y=>by
  unfold ltOf dz;rw[Bool.eq_iff_iff];simp only[decide_eq_true_eq]
  split
  ·simp[*]
  ·split<;>simp<;>omega
 exact{ irrefl:=λx=>(by rw[e];simp),trans:=λx y z h1 h2=>(by rw[e] at*;simp at*;omega),ntrans:=λx y z h1 h2=>(by rw[e] at*;simp at*;omega) }
theorem Tryz.aea:∀w,(isAgg 52).run Tryz.prog w=.ok true w:=λw=>by
 unfold isAgg;rw[Sem.run_bind,run_underlying Tryz.underlying52 w]
 rfl
theorem Tryz.Yp:∀w,(Go.sizeOf 52).run Tryz.prog w=.ok 7 w:=λw=>by
 obtain⟨i,hi,hzz⟩:=Option.map_eq_some_iff.1 Tryz.Bv;simp only[Prod.mk.injEq] at hzz;simp[sizeOf,typeInfo,hi,hzz.2.1]
theorem LD (s:St) (K:List Nat) (g cap:Nat) (W:World) (h:Row W g (K.length*7) (NH s K)) (hn:K.length≤1000000):
  Calls Tryz.prog 70 #[.slice (some ⟨g,0,none⟩) K.length cap,.func (.func 71) #[] #[]] W λe w'=>e=.returned (.tuple #[])∧∃K',K'.Perm K∧Row w' g (K'.length*7) (NH s K')∧Below g W w':=by
 have hH:HoldsK (kY s) 7 W g 0 K.toArray:=λj hj=>by
  have hj':j<K.length*7:=by
   have:(flatK (kY s) 7 K.toArray).size=K.length*7:=by simp[flatK]
   omega
  rw[Nat.zero_add];exact⟨by rw[h.cell hj',DV s K j hj'];rfl,h.frozen j⟩
 refine(AnyQ.slices_SortFunc Tryz.sortLiveA 7 Tryz.aea Tryz.Yp (kY s) (Jq s) (Jp s) (λx y=>dz (s.sq x) (s.sq y)) (Ym s) 71 #[] g 0 cap K.toArray W (enters_of Tryz.func71 (by kernel_rfl) rfl) (λm os dk hs x y=>by
  have:=QM s x y (sortWorldK (kY s) 7 W g 0 m dk os)
  simpa using this) hH h.lt (by simp;omega)).mono ?_
 rintro e w' ⟨rfl,d',n,os,hp,_,rfl⟩;obtain⟨hd,hpp⟩:=U6 (n:=K.toArray.size) rfl hp
 have hd':d'.size=K.length:=by simpa using hd
 refine⟨rfl,d'.toList,by simpa using hpp,?_,?_⟩
 ·have hf:(flatK (kY s) 7 d').size=(flatK (kY s) 7 K.toArray).size:=by simp[flatK,hd']
  have:=qh id W g n (K.length*7) (NH s K) (flatK (kY s) 7 K.toArray) (flatK (kY s) 7 d') os h hH hf (by simp[flatK,hd']);rw[Array.length_toList,hd'];refine Row.congr (show Row (sortWorldK (kY s) 7 W g 0 n d' os) g (K.length*7) _ from this) λi hi=>?_;have:=DV s d'.toList i (by rw[Array.length_toList,hd'];exact hi);simpa using this
 ·exact jy id W g 0 n (flatK (kY s) 7 d') os h.lt
end
end
theorem LP (x y:Int) (w:World):Calls Tryz.prog 113 #[.int .u64 x,.int .u64 y] w λe w'=>e=.returned (.bool (decide (x<y)))∧w'=w:=by
 have H1:=jh (YH x w);go_in;go_wp2_with fail;apply mO H1;rintro e w' ⟨rfl,rfl⟩;go_wp2;go_ret;exact⟨rfl,rfl⟩
def idC (S:List Int) (i:Nat):Value:=.int .u64 (aQ S i)
structure vP (w:World) (g:Nat) (S:List Int):Prop where
 row:Row w g S.length (idC S)
 up:S.Pairwise (·<·)
 le:S.length≤4096
section
variable {w w':World} {g:Nat} {S:List Int}
theorem vP.of_block (h:vP w g S) (e:w'.heap[g]?=w.heap[g]?):vP w' g S:=⟨h.row.of_block e,h.up,h.le⟩
theorem vP.cell (h:vP w g S) {i:Nat} (hi:i<S.length):w.cell? ⟨g,i,none⟩=some (.int .u64 (aQ S i)):=h.row.cell hi
theorem VH (h:S.Pairwise (·<·)) {p q:Nat} (hp:p<S.length) (hq:q<S.length):aQ S p<aQ S q↔p<q:=by
 refine⟨λk=>?_,λk=>sQ h k hq⟩
 rcases Nat.lt_trichotomy p q with c |c |c
 ·exact c
 ·subst c;omega
 ·have:=sQ h c hp;omega
theorem Wz {cap p:Nat} {x:Int} (h:vP w g S) (hp:p<S.length) (hx:aQ S p=x):
  Calls Tryz.prog 66 #[.slice (some ⟨g,0,none⟩) (S.length:Nat) cap,.int .u64 x] w λe w'=>e=.returned (.tuple #[.int .i64 (p:Nat),.bool true])∧∃q,w'=w.drewN q:=by
 have HI:=jh h;have hle:=h.le;have HX:=jh hx;obtain⟨n,hn⟩:=nE S.length;have HN:=jh hn;rw[hn] at hp hle⊢;clear h hx hn;go_in;go_wp2
 go_loopg [7,8] n (λG s7 s8 wr=>∃lo hi q:Nat,s7=.int .i64 lo∧s8=.int .i64 hi∧lo≤p∧p≤hi∧hi≤n∧hi-lo≤G∧wr=w.drewN q)
 case atStart=>exact⟨0,n,0,rfl,rfl,Nat.zero_le _,om,om,om,rfl⟩
 case round=>
  obtain⟨lo,hi,q,rfl,rfl,h1,h2,h3,hg,rfl⟩:=hrel
  by_cases hlt:lo<hi
  ·have hm:(lo+hi) / 2<S.length:=by rw[HN.out];omega
   have cm:w.cell? ⟨g,(lo+hi) / 2,none⟩=some (.int .u64 (aQ S ((lo+hi) / 2))):=HI.out.cell hm;have HM:=jh (VH HI.out.up hm (by rw[HN.out];exact hp:p<S.length));obtain⟨y,hy⟩:=nE (aQ S ((lo+hi) / 2));rw[hy] at cm;have HY:=jh hy;have HL:=λW=>jh (LP y x W);clear hy hm
   by_cases hyx:y<x
   ·have hz:decide (y<x)=true:=dP hyx;have HYX:=jh hyx;clear hyx;go_wp2_with fail;refine(HL _).out.mono ?_;rintro e w' ⟨rfl,rfl⟩;go_wp2
    go_roundg (hi-((lo+hi) / 2+1))
    case measure=>omega
    case rel=>
     have h5:=HM.out;rw[HY.out,HX.out] at h5;have h6:=h5.1 HYX.out;exact⟨(lo+hi) / 2+1,hi,_,by rw[show((lo:Int)+(hi:Int)) / 2+1=(((lo+hi) / 2+1:Nat):Int) by omega],rfl,om,h2,h3,Nat.le_refl _,rfl⟩
   ·have hz:decide (y<x)=false:=dF hyx;have HYX:=jh hyx;clear hyx;go_wp2_with fail;refine(HL _).out.mono ?_;rintro e w' ⟨rfl,rfl⟩;go_wp2
    go_roundg ((lo+hi) / 2-lo)
    case measure=>omega
    case rel=>
     have h5:=HM.out;rw[HY.out,HX.out] at h5;have h6:¬((lo+hi) / 2<p):=λc=>oD (h5.2 c) HYX.out;exact⟨lo,(lo+hi) / 2,_,rfl,by rw[show((lo:Int)+(hi:Int)) / 2=(((lo+hi) / 2:Nat):Int) by omega],h1,om,om,Nat.le_refl _,rfl⟩
  ·have e1:hi=p:=om;have e2:lo=p:=om;subst e1 e2
   have cl:w.cell? ⟨g,lo,none⟩=some (.int .u64 x):=by
    have:=HI.out.cell (i:=lo) (by rw[HN.out];exact hp)
    rwa [HX.out] at this
   go_wp2;go_ret2;exact⟨rfl,_,rfl⟩
theorem lF {cap p:Nat} {x:Int} (h:vP w g S) (hp:p<S.length) (hx:aQ S p=x):
  Calls Tryz.prog 29 #[.slice (some ⟨g,0,none⟩) (S.length:Nat) cap,.int .u64 x] w λe w'=>e=.returned (.int .i64 (p:Nat))∧∃q,w'=w.drewN q:=by
 have HB:=jh (Wz (cap:=cap) h hp hx);clear h hp hx;go_in;go_wp2_with fail;apply mO HB;rintro e w1 ⟨rfl,q,rfl⟩;go_wp2;go_ret;exact⟨rfl,q,rfl⟩
end
section
variable {w w':World} {F:bD} {E V N bg:Nat} {s:St} {inc:Int→List Nat}
theorem Ml (s:St) (UL:List Nat) {i:Nat} (_:i<UL.length):flat (yE s UL) (i+1) 7=flat (yE s UL) i 7++kY s (UL.getD i 0):=by
 rw[jJ];rfl
theorem Dr {w:World} {base g cap n:Nat} {e:TypeId} (s:St) (UL:List Nat) (h:w.ownsRow base e 7 (.slice (some ⟨g,0,none⟩) n cap) n (flat (yE s UL) n 7)):Row w g (n*7) (NH s UL):=by
 rcases h.2 with⟨h0,_⟩ |⟨g',cap',cur,h1,_,hg,_,_,_,ht⟩
 ·cases h0
 ·cases h1;refine⟨cur,e,hg,λi hi=>?_⟩;obtain⟨x,y,hx,hy,rfl⟩:=ko hi;have h2:=iy (f:=yE s UL) hx hy
  have h3:(cur.toList.take (n*7))[x*7+y]?=some (yE s UL x y):=by rw[ht];exact h2
  rw[List.getElem?_take,if_pos hi,Array.getElem?_toList] at h3;rw[h3];unfold NH yE;rw[show(x*7+y) / 7=x by omega,show(x*7+y)%7=y by omega]
theorem KY (h:lq w F E V N bg s inc):
  Calls Tryz.prog 32 #[.pointer (some ⟨F.b,0,none⟩)] w (aen w s):=by
 have HV:=jh (iP h);have c3:=h.c3;have HLI:=jh (Al h.ar (oC h.lim));obtain⟨la,lv,c,cp,M,k,Cq,El⟩:=h.parts;have Ro:=wF h.ok.und (n:=bg) λi hi=>(El i hi).1;obtain⟨UL,hUL⟩:=nE (ji s.U bg);rw[hUL] at HLI Ro;obtain⟨n,hn⟩:=nE UL.length
 have hnb:n≤16384:=by
  rw[←hn,Ro.length_eq];have h1:=jT h.ok.und h.ok.ult;have:=h.lim;omega
 have hmem:∀i∈UL,i∈s.U:=λi hi=>Ro.mem_iff.1 hi;obtain⟨al,pl,rfl⟩:=uq k.ow;have H:=jh h;have K:=jh k;have HB:=jh (And.intro Cq El);have HP:=jh Ro;have HN:=jh hn;have HM:=jh hmem;have NS:=jh hnb;clear h k Cq El Ro hUL hmem;go_in;go_wp2_with fail;apply mO HV;rintro e w1 ⟨rfl,rfl⟩;go_wp2_with fail;apply mO HLI;rintro e w4 ⟨lv,rfl,Rq,hO4⟩;obtain⟨a,cap,A0,rfl,_⟩:=jf Rq;rw[HN.out];have HOI:=jh Rq;have jw:=jh hO4;have oJ:=jh (λg (hg:(Value.slice a UL.length cap).ownBlock=some g)=>And.intro (fP (show w4.ownsRow w1.heap.size _ 1 _ UL.length _ from Rq) hg) (aN (show w4.ownsRow w1.heap.size _ 1 _ UL.length _ from Rq) hg));clear Rq hO4 c3 HV HLI hn;go_wp2
 go_loopg [3,15] n (λQ lv iv wr=>∃(i:Nat) (WG:Option Addr) (NG:Nat),Q+i=n∧lv=.slice WG i NG∧iv=.int .i64 i∧Hid (wr.ownsRow w1.heap.size 52 7 (.slice WG i NG) i (flat (yE s UL) i 7))∧Hid (Off [] w1 wr)∧Hid (iG w1.heap.size (.slice a UL.length cap) UL wr)∧Hid (∀g,(Value.slice a UL.length cap).ownBlock=some g→(Value.slice WG i NG).ownBlock≠some g))
 case atStart=>exact⟨0,none,0,rfl,rfl,rfl,jh (World.ownsRow_nil _ _ _ _),jw,HOI,jh λg _ c1=>by cases c1⟩
 case round=>
  clear HOI jw;obtain⟨i,WG,NG,hQ,rfl,rfl,HL,HF,HI,HD⟩:=hrel
  by_cases hlt:i<n
  ·have d1:decide ((i:Int)<n)=true:=dP om;have d2:decide (i<n)=true:=dP hlt;obtain⟨j,hj⟩:=nE (i+1);have wj:(i:Int)+1=(j:Int):=om
   have hil:i<UL.length:=by rw[HN.out];exact hlt
   obtain⟨x,hx⟩:=nE (UL.getD i 0)
   have hxm:x∈UL:=by rw[←hx,List.getD_eq_getElem?_getD,List.getElem?_eq_getElem hil];exact List.getElem_mem _
   obtain⟨hxb,hxc⟩:=HB.out.2 x (HM.out x hxm);have hxE:x<16384:=oD HB.out.1 H.out.lim;have bi:(0:Int)≤i∧(i:Int)<n∧(n:Int)≤16384∧(0:Int)≤j∧(j:Int)≤16384∧(0:Int)≤x∧(x:Int)<16384∧(x:Int)<bg:=om;obtain⟨a',c',A',e,hrd⟩:=jf HI.out
   obtain⟨rfl,rfl⟩:a=a'∧cap=c':=by cases e;exact⟨rfl,rfl⟩
   have ix:=hrd.ix i hil;have cl:=hrd.cell i hil 0 om;rw[add_zero] at cl
   have cl':wr.cell? (A' i)=some (.int .i64 x):=by rw[cl];unfold nums;rw[lM,hx]
   rw[HN.out] at ix;have kr:=K.out.off HF.out;have c5:=kr.c5
   obtain⟨gl,rfl⟩:∃gl,al=some ⟨gl,0,none⟩:=by
    rcases kr.ow.2 with⟨_,e⟩ |⟨g,cap,cur,e,_⟩
    ·omega
    ·cases e;exact⟨g,rfl⟩
   have lc:∀q<7,wr.cell? ⟨gl,x*7+q,none⟩=some ((kY s x).getD q undef):=λq hq=>by
    rw[(aD kr.ow (iy hxb hq)).1,hxc q hq]
   have l0:wr.cell? ⟨gl,x*7,none⟩=some (.int .i64 x):=lc 0 om;have l1:wr.cell? ⟨gl,x*7+1,none⟩=some (.int .u64 (s.sq x)):=lc 1 om;have l2:wr.cell? ⟨gl,x*7+2,none⟩=some (.int .u64 (s.rc x).u):=lc 2 om;have l3:wr.cell? ⟨gl,x*7+3,none⟩=some (.int .u64 (s.rc x).v):=lc 3 om;have l4:wr.cell? ⟨gl,x*7+4,none⟩=some (.int .i64 (s.rc x).w):=lc 4 om;have l5:wr.cell? ⟨gl,x*7+5,none⟩=some (.int .i64 (s.rc x).t):=lc 5 om;have l6:wr.cell? ⟨gl,x*7+6,none⟩=some (.int .i64 (s.ex x)):=lc 6 om;have hsz:=HF.out.size;have HS:=jh (show flat (yE s UL) j 7=flat (yE s UL) i 7++kY s x by rw[←hj,Ml s UL hil,hx]);have HJ:=jh hj;have HQ:=jh hQ;have NT:=jh hil;clear e hrd cl kr hxm hxb hxc hxE hx hil hj hQ hlt lc
   go_wp2_with (at_builtin;refine push JN rfl _ _ rfl w1.heap.size _ _ _ HL.out rfl #[.int .i64 x,.int .u64 (s.sq x),.int .u64 (s.rc x).u,.int .u64 (s.rc x).v,.int .i64 (s.rc x).w,.int .i64 (s.rc x).t,.int .i64 (s.ex x)] _ rfl rfl rfl (Jp s x) om om hsz ?_;intro g2 cp2 w5 hown5 hg5 hv5;refine Hid.out ?_)
   have hL5:w5.ownsRow w1.heap.size 52 7 (.slice (some ⟨g2,0,none⟩) j cp2) j (flat (yE s UL) j 7):=by
    rw[HS.out,←HJ.out];exact hown5
   have hgb:∀g,(Value.slice WG i NG).ownBlock=some g→w1.heap.size≤g:=λg hg=>fP HL.out hg
   have XB:Off [] w1 w5:=⟨hg5.os.trans HF.out.os,hg5.tape.trans HF.out.tape,hg5.output.trans HF.out.output,Nat.le_trans hsz hg5.size,λq hq _=>(hg5.block q om λe=>by
    have:=hgb q e.symm
    omega).trans (HF.out.block q hq sj)⟩
   have Zz:∀q,(Value.slice a UL.length cap).ownBlock=some q→q<wr.heap.size:=λq hq=>aN (show wr.ownsRow w1.heap.size _ 1 _ UL.length _ from HI.out) hq;have hI5:iG w1.heap.size (.slice a UL.length cap) UL w5:=aG (show wr.ownsRow w1.heap.size _ 1 _ UL.length _ from HI.out) λq hq=>hg5.block q (Zz q hq) λe=>HD.out q hq e.symm
   have hD5:∀g,(Value.slice a UL.length cap).ownBlock=some g→(Value.slice (some ⟨g2,0,none⟩) j cp2).ownBlock≠some g:=λg hg c1=>by
    have e2:g2=g:=Option.some.inj c1
    rcases hv5 with e |e
    ·exact HD.out g hg (by rw[e,e2])
    ·have:=Zz g hg;omega
   have vG:=jh hL5;have HF5:=jh XB;have HI5:=jh hI5;have HD5:=jh hD5;clear hL5 XB hI5 hD5 hgb Zz hown5 hg5 hv5 hsz ix cl' c5 l0 l1 l2 l3 l4 l5 l6;refine jh ?_;go_wp2
   go_roundg (n-j)
   case measure=>have:=HJ.out;have:=HQ.out;omega
   case rel=>exact⟨j,some ⟨g2,0,none⟩,cp2,oC HJ.out,by rw[←HJ.out],rfl,vG,HF5,HI5,HD5⟩
  ·have d1:decide ((i:Int)<n)=false:=dF om;have d2:decide (i<n)=false:=dF hlt;obtain rfl:i=n:=om;clear hlt
   rcases Nat.eq_zero_or_pos i with h0 |h0
   ·subst h0
    have e0:WG=none∧NG=0∨∃g,WG=some ⟨g,0,none⟩:=by
     rcases HL.out.2 with⟨e,_⟩ |⟨g,cap,cur,e,_⟩
     ·cases e;exact .inl ⟨rfl,rfl⟩
     ·cases e;exact .inr ⟨g,rfl⟩
    have HSo:=jh (AnyF.slices_SortFunc_none { Tryz.sortLiveA with } WG NG (.func (.func 71) #[] #[]) wr);have adu:UL=[]:=List.eq_nil_of_length_eq_zero HN.out;have HU0:=jh adu;have HE:=jh e0;clear adu e0;go_wp2_with fail;apply mO HSo;rintro e w5 ⟨rfl,hw5⟩;obtain rfl:=hw5;go_wp2;go_ret;have hP:=HP.out;rw[HU0.out] at hP
    rcases HE.out with⟨rfl,rfl⟩ |⟨g,rfl⟩
    ·exact⟨_,[],rfl,hP,.inl ⟨rfl,rfl⟩,HF.out⟩
    ·have hr:=Dr s [] (by have:=HL.out;rw[HU0.out] at this;exact this);exact⟨_,[],rfl,hP,.inr ⟨g,NG,rfl,hr,fP HL.out rfl⟩,HF.out⟩
   ·obtain⟨gl,rfl⟩:∃gl,WG=some ⟨gl,0,none⟩:=by
     rcases HL.out.2 with⟨_,e⟩ |⟨g,cap,cur,e,_⟩
     ·omega
     ·cases e;exact⟨g,rfl⟩
    have hgl:w1.heap.size≤gl:=fP HL.out rfl;have hr:=Dr s UL HL.out;rw[←HN.out] at hr;have HSo:=jh (LD s UL gl NG wr hr (by rw[HN.out];omega));rw[HN.out] at HSo;have HG:=jh hgl;clear hr h0 hgl;go_wp2_with fail;apply mO HSo;rintro e w5 ⟨rfl,K',hp,hr,hb⟩;have HR:=jh (And.intro hp (And.intro hr hb));clear hp hr hb HSo;go_wp2;go_ret;refine⟨_,K',rfl,HR.out.1.trans HP.out,.inr ⟨gl,NG,?_,HR.out.2.1,HG.out⟩,⟨HR.out.2.2.os.trans HF.out.os,HR.out.2.2.tape.trans HF.out.tape,HR.out.2.2.output.trans HF.out.output,Nat.le_trans HF.out.size HR.out.2.2.size,λj hj _=>(HR.out.2.2.block j (oC HG.out)).trans (HF.out.block j hj sj)⟩⟩;rw[HR.out.1.length_eq,HN.out];rfl
end
section
variable {w:World} {G:dX} {c:Cf} {nw ex:Int} {ad:Nat} {s:St} {ef:Nat→Int} {U:List Nat} {f:Fs}
theorem zl (h:fM w G c nw ad ex s ef U f):
  Calls Tryz.prog 12 #[.pointer (some ⟨G.b,0,none⟩)] w (aen w s):=by
 have HV:=jh (gH h);have c5:=h.c5;obtain⟨N,bg,inc,st⟩:=h.st;have HL:=jh (KY st);clear h st;go_in;go_wp2_with fail;apply mO HV;rintro e w1 ⟨rfl,rfl⟩;go_wp2_with fail;apply mO HL;rintro e w2 ⟨v,K,rfl,h1⟩;have H1:=jh h1;clear h1 HL;go_wp2;go_ret;exact⟨v,K,rfl,H1.out⟩
end
theorem Tryz.VF:(Tryz.prog.info? 242).map (λi=>(i.zero,i.size,i.bytes))=some (some (.agg #[.int .i64 0,.int .i64 0,.int .i64 0]),3,24):=by kernel_rfl
theorem AU (n:Nat) (hn:n≤16384) (w:World):(Instr.makeSlice 198 (.int .i64 (n:Int)) (.int .i64 (n:Int))).run Tryz.prog w=.ok (.slice (some ⟨w.heap.size,0,none⟩) n n) (w.alloc (.cells (madeCells #[.int .i64 0,.int .i64 0,.int .i64 0] (n*3)) 242)):=by
 obtain⟨i,hi,hzz⟩:=Option.map_eq_some_iff.1 Tryz.VF;simp only[Prod.mk.injEq] at hzz;obtain⟨hz,hs,hb⟩:=hzz;have hr:=run_make (P:=Tryz.prog) w 198 242 i _ Tryz.underlying198 hi hz .i64 .i64 n n om (Int.le_refl _) (by rw[hb];omega) om;simp only[Int.toNat_natCast,hs] at hr;exact hr
def TV (E:List Ed) (k q:Nat):Value:=if q / 3<k then edC E (q / 3) (q%3) else .int .i64 0
theorem Qy (E:List Ed) (w:World) (n:Nat):Row (w.alloc (.cells (madeCells #[.int .i64 0,.int .i64 0,.int .i64 0] (n*3)) 242)) w.heap.size (n*3) (TV E 0):=
 ⟨_,_,heap_alloc_new _ _,λi hi=>by
  have h3:i%3=0∨i%3=1∨i%3=2:=om;rw[TV,if_neg om];simp only[madeCells,Array.getElem?_map];rw[Array.getElem?_eq_getElem (by simpa using hi)];simp only[Array.getElem_range,Option.map_some];show some (#[Value.int .i64 0,.int .i64 0,.int .i64 0][i%3]!)=_
  rcases h3 with h |h |h<;>rw[h]<;>rfl⟩
theorem KH {w:World} {b n k:Nat} {E:List Ed} (h:Row w b (n*3) (TV E k)):Row (((w.setCell ⟨b,k*3,none⟩ (.int .i64 (aR E k).u)).setCell ⟨b,k*3+1,none⟩ (.int .i64 (aR E k).v)).setCell ⟨b,k*3+2,none⟩ (.int .i64 (aR E k).w)) b (n*3) (TV E (k+1)):=by
 refine(((h.set (k*3) _).set (k*3+1) _).set (k*3+2) _).congr λq hq=>?_;unfold TV
 by_cases c:q / 3=k
 ·have h3:q=k*3∨q=k*3+1∨q=k*3+2:=om;rw[if_pos (by omega:q / 3<k+1),c]
  rcases h3 with h |h |h
  ·rw[if_neg om,if_neg om,if_pos h,show q%3=0 by omega];rfl
  ·rw[if_neg om,if_pos h,show q%3=1 by omega];rfl
  ·rw[if_pos h,show q%3=2 by omega];rfl
 ·rw[if_neg om,if_neg om,if_neg om]
  by_cases d:q / 3<k
  ·rw[if_pos d,if_pos om]
  ·rw[if_neg d,if_neg om]
def Dy (S:List Int) (x:Int):Nat:=S.findIdx λy=>decide (y=x)
theorem kS {S:List Int} {x:Int} (h:x∈S):Dy S x<S.length∧aQ S (Dy S x)=x:=by
 have h1:Dy S x<S.length:=List.findIdx_lt_length_of_exists ⟨x,h,sj⟩;refine⟨h1,?_⟩;have h2:=List.findIdx_getElem (w:=h1);unfold aQ;rw[List.getD_eq_getElem?_getD,List.getElem?_eq_getElem h1];exact of_decide_eq_true h2
def je (S:List Int) (s:St) (K:List Nat):List Ed:=K.map λk=>⟨(Dy S (s.rc k).u:Nat),(Dy S (s.rc k).v:Nat),(s.rc k).w⟩
theorem FR {S:List Int} {s:St} {K:List Nat} {i:Nat} (hi:i<K.length):aR (je S s K) i=⟨(Dy S (s.rc (K.getD i 0)).u:Nat),(Dy S (s.rc (K.getD i 0)).v:Nat),(s.rc (K.getD i 0)).w⟩:=by
 unfold je aR;simp[List.getD,hi]
theorem AX (S:List Int) (s:St) (K:List Nat):(je S s K).length=K.length:=by unfold je;rw[List.length_map]
structure aiX (w w':World) (s:St) (S:List Int) (K:List Nat) (g:Nat) (ea:Option Addr) (ec:Nat) (A:Nat→Addr):Prop where
 ids:vP w' g S
 sp:S.Perm (s.TU.map (aJ s.ids))
 kp:K.Perm s.U
 es:ES w' w'.heap.size (.slice ea (je S s K).length ec) (je S s K) A
 Jh:yt S (K.map s.rc) (je S s K)
 gok:tZ S.length (je S s K)
 new:w.heap.size≤g
 lt:g<w'.heap.size
 off:Off [] w w'
def aiW (w:World) (s:St) (e:Ending) (w':World):Prop:=
 ∃S K g cap ea ec lv A,e=.returned (.tuple #[.slice (some ⟨g,0,none⟩) (S.length:Nat) cap,.slice ea ((je S s K).length:Nat) ec,lv])∧aiX w w' s S K g ea ec A
section
variable {w:World} {G:dX} {c:Cf} {nw ex:Int} {ad:Nat} {s:St} {ef:Nat→Int} {U:List Nat} {f:Fs}
theorem YL {w w':World} {s:St} {v:Value} {K:List Nat} (h:v=.slice none 0 0∧K=[]∨∃g cap,v=.slice (some ⟨g,0,none⟩) (K.length:Nat) cap∧Row w' g (K.length*7) (NH s K)∧w.heap.size≤g):
  ∃a cap A,v=.slice a (K.length:Nat) cap∧Rd 45 7 w' w'.heap.size (.slice a (K.length:Nat) cap) K.length (yE s K) A:=by
 rcases h with⟨rfl,rfl⟩ |⟨g,cap,rfl,hr,_⟩
 ·exact⟨none,0,λ_=>⟨0,0,none⟩,rfl,Rd.nil _⟩
 ·refine⟨some ⟨g,0,none⟩,cap,_,rfl,Rd.addr JN (λ_=>hr.lt) λi hi j hj=>?_⟩;rw[kV,Nat.zero_add,hr.cell om];unfold NH yE;rw[show(i*7+j) / 7=i by omega,show(i*7+j)%7=j by omega]
theorem U4 (h:fM w G c nw ad ex s ef U f) (hV:c.V≤12):
  Calls Tryz.prog 108 #[.pointer (some ⟨G.b,0,none⟩)] w (aiW w s):=by
 have HI:=jh (NZ h hV);have HL:=fun{W:World} (o:Off [] w W)=>jh (zl (h.off o))
 have HST:=jh (show jA c.E s∧c.E≤16384∧s.TU.length≤c.V by
  obtain⟨N,bg,inc,st⟩:=h.st
  exact⟨st.ok,st.lim.1,st.IV⟩)
 have HV:=jh hV;clear h hV;go_in;go_wp2_with fail;apply mO HI;rintro e w1 ⟨g,cap,S,rfl,hU,hp,hs,o1⟩
 have hSl:S.length=s.TU.length:=by rw[hp.length_eq,List.length_map]
 rw[←hSl] at hU⊢
 have adC:vP w1 g S:=by
  refine⟨?_,uh hs (hp.nodup_iff.2 HST.out.1.JD),oD HST.out.2.2 HV.out⟩;refine(Row.owned (w:=w1) (g:=g) (n:=S.length) (by unfold gy at hU;exact hU)).congr λi hi=>?_;unfold idC aQ jL;simp[List.getD,hi]
 have hgn:w.heap.size≤g:=fP hU rfl;have aaV:=jh adC;have HP:=jh (And.intro hp hs);have HG:=jh hgn;clear hU hp hs hSl adC hgn HI;have fK:=jh o1;go_wp2_with fail;refine(HL fK.out).out.mono ?_;rintro e w2 ⟨v,K,rfl,hK,hv,o2⟩;obtain⟨la,YM,LA,rfl,hlr⟩:=YL hv
 have hKl:K.length≤16384:=by
  have h1:=bG (l:=K) (r:=List.range c.E) (hK.nodup_iff.2 HST.out.1.und) λx hx=>List.mem_range.2 (HST.out.1.ult x (hK.mem_iff.1 hx));rw[List.length_range] at h1;have:=HST.out.2.1;omega
 have HK:=jh hK;have HLR:=jh hlr;have eG:=jh (fK.out.trans o2 sj);have HI2:=jh (aaV.out.of_block (o2.block g aaV.out.row.lt sj));have hmk:=AU K.length hKl;clear hK hv hlr o1 o2 HL aaV fK;go_wp2_with fail;obtain⟨m,hm⟩:=nE K.length;have HM:=jh hm;obtain⟨W0,hW0⟩:∃W,w2.alloc (.cells (madeCells #[.int .i64 0,.int .i64 0,.int .i64 0] (K.length*3)) 242)=W:=⟨_,rfl⟩
 have r0:Row W0 w2.heap.size (m*3) (TV (je S s K) 0):=by rw[←hW0,←hm];exact Qy _ _ _
 have o0:Off [] w2 W0:=by rw[←hW0];exact(Off.refl _ _).alloc _
 have hs0:w2.heap.size<W0.heap.size:=by rw[←hW0];simp
 obtain⟨eb,heb⟩:=nE w2.heap.size;have HEB:=jh heb;rw[heb] at r0 hs0⊢;rw[hW0];rw[hm] at hKl⊢;have yA:=jh r0;have Kh:=jh o0;clear r0 o0 hW0 hm heb hmk
 go_loopw [19] (λi wr=>∃q:Nat,q≤m∧i=.int .i64 q∧Hid (Row wr eb (m*3) (TV (je S s K) q))∧Hid (Off [eb] W0 wr)) (λi _=>m-(intOf i).toNat)
 case atStart=>exact⟨0,Nat.zero_le _,rfl,yA,jh (Off.refl _ _)⟩
 case round=>
  obtain⟨q,hq,rfl,HR,HO⟩:=hrel
  by_cases hlt:q<m
  ·obtain⟨x,hx⟩:=nE (K.getD q 0)
   have hxU:x∈s.U:=by
    have:x∈K:=by rw[←hx,List.getD_eq_getElem?_getD,List.getElem?_eq_getElem (by rw[HM.out];exact hlt)];exact List.getElem_mem _
    exact HK.out.mem_iff.1 this
   obtain⟨mu,mv⟩:=yt.place HST.out.1 HP.out.1 hxU;have pu:=kS mu;have pv:=kS mv;have hbr:Below w2.heap.size w2 wr:=(Kh.out.below (Nat.le_refl _) sj).trans (HO.out.below (B:=w2.heap.size) Kh.out.size (by simp[HEB.out]));have hl:=HLR.out.below hbr;rw[HM.out] at hl;have i0:=hl.ix q hlt;have hI:=HI2.out.of_block (hbr.block g HI2.out.row.lt)
   have k0:wr.cell? (LA q)=some (.int .i64 x):=by
    have:=hl.cell q hlt 0 om;unfold yE kY at this;rw[hx] at this;rw[add_zero] at this;exact this
   have k1:wr.cell? (⟨(LA q).block,(LA q).off+1,none⟩)=some (.int .u64 (s.sq x)):=by
    have:=hl.cell q hlt 1 om;unfold yE kY at this;rw[hx] at this;exact this
   have k2:wr.cell? (⟨(LA q).block,(LA q).off+2,none⟩)=some (.int .u64 (s.rc x).u):=by
    have:=hl.cell q hlt 2 om;unfold yE kY at this;rw[hx] at this;exact this
   have k3:wr.cell? (⟨(LA q).block,(LA q).off+3,none⟩)=some (.int .u64 (s.rc x).v):=by
    have:=hl.cell q hlt 3 om;unfold yE kY at this;rw[hx] at this;exact this
   have k4:wr.cell? (⟨(LA q).block,(LA q).off+4,none⟩)=some (.int .i64 (s.rc x).w):=by
    have:=hl.cell q hlt 4 om;unfold yE kY at this;rw[hx] at this;exact this
   have k5:wr.cell? (⟨(LA q).block,(LA q).off+5,none⟩)=some (.int .i64 (s.rc x).t):=by
    have:=hl.cell q hlt 5 om;unfold yE kY at this;rw[hx] at this;exact this
   have k6:wr.cell? (⟨(LA q).block,(LA q).off+6,none⟩)=some (.int .i64 (s.ex x)):=by
    have:=hl.cell q hlt 6 om;unfold yE kY at this;rw[hx] at this;exact this
   obtain⟨a,ha⟩:=nE (Dy S (s.rc x).u);obtain⟨b,hb⟩:=nE (Dy S (s.rc x).v)
   have hE:aR (je S s K) q=⟨a,b,(s.rc x).w⟩:=by rw[FR (by rw[HM.out];exact hlt),hx,ha,hb]
   rw[ha] at pu;rw[hb] at pv;have hqi:(0:Int)≤q∧(q:Int)<m:=om;have HQ:=jh hE;have HPU:=jh (And.intro pu pv);have HHI:=jh hI;clear hE ha hb mu mv hxU hl hI hbr;go_wp2_with fail;obtain⟨W1,hW1⟩:∃W,wr.alloc (.cells #[.int .i64 x,.int .u64 (s.sq x),.int .u64 (s.rc x).u,.int .u64 (s.rc x).v,.int .i64 (s.rc x).w,.int .i64 (s.rc x).t,.int .i64 (s.ex x)] 52)=W:=⟨_,rfl⟩
   have o1:Off [] wr W1:=by rw[←hW1];exact(Off.refl _ _).alloc _
   have r1:Row W1 wr.heap.size 7 (λi=>(#[Value.int .i64 x,.int .u64 (s.sq x),.int .u64 (s.rc x).u,.int .u64 (s.rc x).v,.int .i64 (s.rc x).w,.int .i64 (s.rc x).t,.int .i64 (s.ex x)]:Array Value).getD i undef):=by
    rw[←hW1];exact Row.lit _ _ _ (Nat.le_refl _) lC
   obtain⟨tb,htb⟩:=nE wr.heap.size;have CJ:=jh htb;rw[htb] at r1⊢;rw[hW1];have HR1:=jh r1;have fK:=jh o1;obtain⟨V1,hV1⟩:=nE W1.drew;have HVe:=jh hV1;have HV1:=jh (show Off [] W1 V1 by rw[←hV1];exact(Off.refl _ _).drew);have afc:=jh (HHI.out.of_block ((HV1.out.block g (Nat.lt_of_lt_of_le HHI.out.row.lt fK.out.size) sj).trans (fK.out.block g HHI.out.row.lt sj)));have HPa:=λW (hI:vP W g S)=>jh (lF (cap:=cap) hI HPU.out.1.1 HPU.out.1.2);have HPb:=λW (hI:vP W g S)=>jh (lF (cap:=cap) hI HPU.out.2.1 HPU.out.2.2)
   have hcell:∀W,Off [] W1 W→W.cell? ⟨tb,2,none⟩=some (.int .u64 (s.rc x).u)∧W.cell? ⟨tb,3,none⟩=some (.int .u64 (s.rc x).v)∧W.cell? ⟨tb,4,none⟩=some (.int .i64 (s.rc x).w):=λW o=>by
    have r:=HR1.out.off o sj;exact⟨r.c 2,r.c 3,r.c 4⟩
   have HC:=jh hcell;have HS:=hcell V1 HV1.out;clear k0 k1 k2 k3 k4 k5 k6 i0 pu pv hx o1 r1 hW1 htb hV1 hcell;refine aj (λW=>W.cell? ⟨tb,2,none⟩=some (.int .u64 (s.rc x).u)∧W.cell? ⟨tb,3,none⟩=some (.int .u64 (s.rc x).v)∧W.cell? ⟨tb,4,none⟩=some (.int .i64 (s.rc x).w)) (by kernel_rfl) ?_;rw[HVe.out];refine tC 0 ?_;refine tC 1 ?_;refine tC 2 ?_;refine tC 3 ?_;refine tC 4 ?_;refine tC 5 ?_;refine tC 7 ?_;refine tC 8 ?_;refine tC 9 ?_;refine tC 10 ?_;refine tC 12 ?_;refine tC 13 ?_;refine tC 14 ?_
   try simp only[sD]
   refine rC 6 λKx hK=>?_;go_simp;refine(HPa V1 afc.out).out.mono ?_;rintro e w5 ⟨rfl,p1,rfl⟩;have Tn:=jh (HV1.out.drewN p1);have HS:=HC.out _ Tn.out;have ajR:=jh (afc.out.of_block (w':=V1.drewN p1) sj);refine hK.out _ _ HS (λ_=>?_);clear hK;refine rC 11 λKx hK=>?_;go_simp;refine(HPb _ ajR.out).out.mono ?_;rintro e w6 ⟨rfl,p2,rfl⟩;obtain⟨V3,hV3⟩:=nE ((V1.drewN p1).drewN p2);have Uf:=jh (show Off [] W1 V3 by rw[←hV3];exact Tn.out.drewN p2);rw[hV3];clear HS;have HS:=HC.out _ Uf.out;refine hK.out _ _ HS (λ_=>?_);clear hK;refine tC 15 ?_;refine tC 16 ?_
   try simp only[sD]
   have r3:Row V3 eb (m*3) (TV (je S s K) q):=HR.out.off (fK.out.trans Uf.out sj) sj;have fz:=r3.frozen;have z0:=r3.c (q*3);have z1:=r3.c (q*3+1);have z2:=r3.c (q*3+2);have f0:=r3.frozen (q*3);have f1:=r3.frozen (q*3+1);have f2:=r3.frozen (q*3+2);have HR3:=jh r3;clear r3 fz;refine rC 17 λKx hK=>?_;go_simp
   have hE3:(((V3.setCell ⟨eb,q*3,none⟩ (.int .i64 a)).setCell ⟨eb,q*3+1,none⟩ (.int .i64 b)).setCell ⟨eb,q*3+2,none⟩ (.int .i64 (s.rc x).w))=(((V3.setCell ⟨eb,q*3,none⟩ (.int .i64 (aR (je S s K) q).u)).setCell ⟨eb,q*3+1,none⟩ (.int .i64 (aR (je S s K) q).v)).setCell ⟨eb,q*3+2,none⟩ (.int .i64 (aR (je S s K) q).w)):=by rw[HQ.out]
   obtain⟨V4,Zo⟩:=nE ((((V3.setCell ⟨eb,q*3,none⟩ (.int .i64 a)).setCell ⟨eb,q*3+1,none⟩ (.int .i64 b)).setCell ⟨eb,q*3+2,none⟩ (.int .i64 (s.rc x).w)))
   have r4:Row V4 eb (m*3) (TV (je S s K) (q+1)):=by rw[←Zo,hE3];exact KH HR3.out
   have o4:Off [eb] V3 V4:=by
    rw[←Zo];exact(((Off.refl [eb] V3).setCell (p:=⟨eb,q*3,none⟩) sj _).setCell (p:=⟨eb,q*3+1,none⟩) sj _).setCell (p:=⟨eb,q*3+2,none⟩) sj _
   have HR4:=jh r4;have hsr:=HO.out.size;have hs1:=fK.out.size;have hs3:=Uf.out.size;have jw:=jh (((HO.out.trans fK.out sj).trans Uf.out sj).trans o4 sj);have hne:tb≠eb:=oC CJ.out
   have NR:V4.cell? ⟨tb,2,none⟩=some (.int .u64 (s.rc x).u)∧V4.cell? ⟨tb,3,none⟩=some (.int .u64 (s.rc x).v)∧V4.cell? ⟨tb,4,none⟩=some (.int .i64 (s.rc x).w):=by
    have r:=(HR1.out.off Uf.out sj).off o4 (by simpa using hne);exact⟨r.c 2,r.c 3,r.c 4⟩
   rw[Zo];clear hE3 Zo r4 o4 z0 z1 z2 f0 f1 f2 HS;refine hK.out _ _ NR (λ_=>?_);clear hK NR;refine dD ⟨rfl,?_⟩;go_wp2;go_roundw
   case rel=>exact⟨q+1,om,by go_num,HR4,jw⟩
   case measure=>simp only[intOf];omega
  ·have hqe:q=m:=om;subst hqe;go_wp2_with fail;have hbr:Below w2.heap.size w2 wr:=(Kh.out.below (Nat.le_refl _) sj).trans (HO.out.below (B:=w2.heap.size) Kh.out.size (by simp[HEB.out]));have hI:=HI2.out.of_block (hbr.block g HI2.out.row.lt)
   have hpl:(je S s K).length=q:=by rw[AX,HM.out]
   have hes:ES wr wr.heap.size (.slice (some ⟨eb,0,none⟩) (je S s K).length q) (je S s K) (λi=>(⟨eb,0,none⟩:Addr).add (i*3)):=Rd.addr etE (λ_=>HR.out.lt) λi hi j hj=>by
    rw[kV,Nat.zero_add,HR.out.cell (by rw[hpl] at hi;omega)];unfold TV;rw[if_pos (by rw[hpl] at hi;omega),show(i*3+j) / 3=i by omega,show(i*3+j)%3=j by omega]
   have hin:∀i<K.length,K.getD i 0∈s.U:=λi hi=>HK.out.mem_iff.1 (by
    rw[List.getD_eq_getElem?_getD,List.getElem?_eq_getElem hi];exact List.getElem_mem _)
   have hpc:yt S (K.map s.rc) (je S s K):=yt.of HST.out.1 HP.out.1 HP.out.2 HK.out (AX S s K) λi hi=>by
    obtain⟨mu,mv⟩:=yt.place HST.out.1 HP.out.1 (hin i hi);have pu:=kS mu;have pv:=kS mv;exact⟨_,_,pu.1,pv.1,FR hi,pu.2,pv.2⟩
   have Xx:tZ S.length (je S s K):=by
    refine⟨HI2.out.le,by rw[hpl];exact hKl,λi hi=>?_⟩;rw[AX] at hi;obtain⟨mu,mv⟩:=yt.place HST.out.1 HP.out.1 (hin i hi);have pu:=kS mu;have pv:=kS mv;have hne:=HST.out.1.ne _ (hin i hi);rw[FR hi];refine⟨Int.natCast_nonneg _,Int.ofNat_lt.2 pu.1,Int.natCast_nonneg _,Int.ofNat_lt.2 pv.1,λe=>hne ?_⟩;have e2:Dy S (s.rc (K.getD i 0)).u=Dy S (s.rc (K.getD i 0)).v:=Int.ofNat_inj.1 e;rw[←pu.2,←pv.2,e2]
   go_ret3
   refine⟨S,K,g,cap,some ⟨eb,0,none⟩,q,.slice la q YM,_,by rw[hpl];rfl,hI,HP.out.1,HK.out,hes,hpc,Xx,HG.out,hI.row.lt,?_⟩;exact(eG.out.trans Kh.out sj).trans HO.out (by have:=eG.out.size;have:=HEB.out;simp;omega)
end
end Go.Proofs.YtpaeogglppampaaGreatDoor
