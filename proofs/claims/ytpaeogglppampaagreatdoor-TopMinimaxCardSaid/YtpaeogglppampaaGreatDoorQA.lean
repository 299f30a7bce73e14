/- Lemmas of the proof. Conditions: as each one states. -/
import Derived.Test.YtpaeogglppampaaGreatDoorQe
import Derived.Test.YtpaeogglppampaaGreatDoorQf
import Derived.Test.YtpaeogglppampaaGreatDoorQo
import Derived.RangeFuncBound
import Derived.RangeFuncCalls
import Derived.RangeFuncLeaves
import Derived.Shelf.Abstract
import Derived.Shelf.RegionOpen
import Derived.OwnWalkIn
import Derived.TacticsInMore
import Derived.LoopNIn
import Derived.LoopIn
import Derived.BigRegionIn
set_option maxRecDepth 100000
set_option maxHeartbeats 16000000
namespace Go.Proofs.YtpaeogglppampaaGreatDoor
open Go.RowKit
section
open Go.Shelf
def yO (L:List Nat) (i:Nat):Value:=.int .i64 (L.getD i 0:Nat)
def yw (bt pb:Nat) (W W':World):Prop:=W'.heap[bt]?=W.heap[bt]?∧W'.heap[pb]?=W.heap[pb]?
theorem Jz {bt pb:Nat} {A B C:World} (h:yw bt pb A B) (k:yw bt pb B C):yw bt pb A C:=⟨k.1.trans h.1,k.2.trans h.2⟩
theorem Vu {bt pb:Nat} {w:World} (h1:bt<w.heap.size) (h2:pb<w.heap.size) (W:World) (l:Nat) (o o':Obj) (hl:w.heap.size≤l) (_:W.heap[l]?=some o) (_:o.isCells=false) (_:o.isWalk=false):yw bt pb W (W.putObj l o'):=
 ⟨World.putObj_heap_other om,World.putObj_heap_other om⟩
def aal (L:List Nat) (i:Nat):Array Value:=#[.int .i64 (i:Nat),yO L i]
theorem Ng (m:Nat) (hm:1≤m) (bt pb cp:Nat) (L:List Nat) (w:World) (hT:Boxed w bt 62 (.slice (some ⟨pb,0,none⟩) L.length cp)) (hR:Row w pb L.length (yO L)) (hl:L.length≤1000000):
  WH Fence.wide m Tryz.prog 207 #[.pointer (some ⟨bt,0,none⟩)] (aal L) (yw bt pb) (λpre i=>i+pre.length+1=L.length) (λxs=>xs.length=L.length) w:=λl J Jx W hW hJ hJx hY h0=>by
 have hbt:bt<w.heap.size:=hT.lt;have HT:=jh (show Boxed W bt 62 (.slice (some ⟨pb,0,none⟩) L.length cp) from(hW.block _ hbt).trans hT);have HR:=jh (show Row W pb L.length (yO L) from hR.below hW hR.lt);obtain⟨z,hz⟩:=nE L.length;rw[hz] at HT HR hl;have hsz:=hW.size;have c0:=HT.out.cell;have hdz:IntKind.i64.wrap ((z:Int)-1)=(z:Int)-1:=IntWalk.i64_in _ om;have HZ:=jh hz;clear hT hR hW hJx hz;refine callsIn_of_wp Tryz.func207 rfl trivial ?_ rfl;simp only[Tryz.ntmps207,List.size_toArray,List.length_cons,List.length_nil,Nat.reduceAdd,Nat.reduceSub,Array.replicate_succ,Array.replicate_zero,List.push_toArray,List.append_toArray,List.nil_append,List.cons_append]
 gi_wp2
 clear c0 hdz;have HJ0:=jh h0;clear h0
 gi_loopw [3] (λp wr=>∃(c:Nat) (pre:List Nat) (y:Int),Hid (c≤z∧pre.length+c=z∧y=(c:Int)-1)∧p=.int .i64 y∧Hid (J pre wr)∧Hid (yw bt pb W wr)) (λp _=>(intOf p+1).toNat)
 case atStart=>exact⟨z,[],(z:Int)-1,jh ⟨Nat.le_refl _,sj,rfl⟩,rfl,HJ0,jh ⟨rfl,rfl⟩⟩
 case round=>
  clear HJ0;obtain⟨c,pre,y,HC,rfl,HJ,HK⟩:=hrel;obtain⟨hc1,hc2,hc3⟩:=HC.out
  cases c with
  |zero=>
   obtain rfl:y=-1:=om;clear hc3
   gi_wp2
   go_end0;exact⟨⟨_,rfl⟩,.inl ⟨pre,oC HZ.out,HJ.out⟩⟩
  |succ x=>
   obtain rfl:y=(x:Int):=om;have hxz:x<z:=om;have hxi:(0:Int)≤x∧(x:Int)<z:=om;obtain⟨fn,tmps,assign,body,hy,hR⟩:=hY pre x wr HJ.out (oC HZ.out);have c0:wr.cell? ⟨bt,0,none⟩=some (.slice (some ⟨pb,0,none⟩) z cp):=Boxed.cell (HK.out.1.trans HT.out);have r3:wr.cell? ⟨pb,x,none⟩=some (yO L x):=(HR.out.of_block HK.out.2).cell hxz;unfold aal yO at hy;unfold yO at r3;obtain⟨pv,hpv⟩:=nE (L.getD x 0);rw[hpv] at hy r3;have hdx:IntKind.i64.wrap ((x:Int)-1)=(x:Int)-1:=IntWalk.i64_in _ om;have HCx:=jh (And.intro hc1 hc2);clear hpv hc1 hc2 hc3 HC
   gi_wp2
   refine hR.mono ?_;rintro e W3 (⟨rfl,hJ3,hk3⟩ |⟨rfl,hJx3⟩)
   ·have HJ3:=jh hJ3;have HK3:=jh (Jz HK.out hk3);clear hJ3 hk3
    gi_wp2
    go_roundw
    case rel=>exact⟨x,pre++[x],(x:Int)-1,jh ⟨oC HCx.out,by have:=HCx.out;simp;omega,rfl⟩,rfl,HJ3,HK3⟩
    case measure=>simp only[intOf];omega
   ·gi_wp2
    refine bodyPost_ret (results_none rfl _ _ _) rfl ?_;exact⟨⟨_,rfl⟩,.inr ⟨_,hJx3⟩⟩
theorem SK (a:Option Addr) (m c:Nat) (w:World):
  Calls Tryz.prog 178 #[.slice a m c] w λe w'=>e=.returned (.func (.func 207) #[] #[.pointer (some ⟨w.heap.size,0,none⟩)])∧w.alloc (.cells #[.slice a m c] 62)=w':=by
 go_in
 go_wp2
 go_ret;exact⟨rfl,rfl⟩
end
section
open Go.Shelf
def tH (N a:Nat):Nat→Nat
 |0=>a
 |k+1=>dY N (tH N a k)
theorem tF {N a:Nat} (ha:a<N):∀k<N,tH N a k<N∧dl N a (tH N a k)=k
 |0,_=>⟨ha,pz N a⟩
 |k+1,hk=>by
  obtain⟨h1,h2⟩:=tF ha k om;refine⟨FY h1,?_⟩;show dl N a (dY N (tH N a k))=k+1;rw[R8 ha h1 (λe=>oC (JU ha h1 e)),h2]
theorem J5 {N c:Nat} (h:Pw N) (hc:c<N):bits BinOp.and IntKind.i64 ((c:Int)+1) ((N:Int)-1)=((dY N c:Nat):Int):=by
 rw[h.i64];unfold dY
 split
 ·rename_i e;rw[show(c:Int)+1=(N:Int) by omega,Int.emod_self];rfl
 ·rw[Int.emod_eq_of_lt om om];push_cast;rfl
def Aq (B:List Nat) (W W':World):Prop:=∀j∈B,W'.heap[j]?=W.heap[j]?
theorem Jy {B:List Nat} {a b c:World} (h:Aq B a b) (k:Aq B b c):Aq B a c:=λj hj=>(k j hj).trans (h j hj)
theorem Vt {B:List Nat} {w:World} (hB:∀j∈B,j<w.heap.size) (W:World) (l:Nat) (o o':Obj) (hl:w.heap.size≤l) (_:W.heap[l]?=some o) (_:o.isCells=false) (_:o.isWalk=false):Aq B W (W.putObj l o'):=
 λj hj=>World.putObj_heap_other (oC (hB j hj))
def Yz (cl:Nat→Nat) (c:Nat):Array Value:=#[.int .i64 (c:Nat),.int .i64 (cl c:Nat)]
section
variable {f:iL} {S N:Nat} {iv:Value} {ids:List Int} {cl:Nat→Nat} {U:List Nat}
theorem PK (h:Nat) (x:Int) (w:World):
  Calls Tryz.prog 139 #[.pointer (some ⟨h,0,none⟩),.int .u64 x] w λe w'=>e=.returned (.func (.func 168) #[] #[.pointer (some ⟨w.heap.size,0,none⟩),.pointer (some ⟨w.heap.size+1,0,none⟩)])∧(w.alloc (.cells #[.pointer (some ⟨h,0,none⟩)] 133)).alloc (.cells #[.int .u64 x] 25)=w':=by
 go_in;go_wp2;go_ret;exact⟨rfl,rfl⟩
theorem Lb (m:Nat) (hm:1≤m) (bt bx:Nat) (x:Int) (w:World) (h:iX w f S N iv ids cl U) (hN:Pw N) (hT:Boxed w bt 133 (.pointer (some ⟨f.h,0,none⟩))) (hX:Boxed w bx 25 (.int .u64 x)):
  WH Fence.wide m Tryz.prog 168 #[.pointer (some ⟨bt,0,none⟩),.pointer (some ⟨bx,0,none⟩)] (Yz cl) (Aq (bt::bx::f.bl)) (λpre c=>c=tH N (bM N x) pre.length∧pre.length<N) (λxs=>xs.length=N) w:=λl J Jx W hW hJ hJx hY h0=>by
 have hM:iX W f S N iv ids cl U:=h.keep λj hj=>hW.block j (h.lt j hj);have HT:=jh (show Boxed W bt 133 (.pointer (some ⟨f.h,0,none⟩)) from(hW.block _ hT.lt).trans hT);have HX:=jh (show Boxed W bx 25 (.int .u64 x) from(hW.block _ hX.lt).trans hX);have HM:=jh hM;have HH:=jh (uf hM hN x);have c0:=HT.out.cell;have c1:=HX.out.cell;have c3:=hM.c3;have HN:=jh hN;have bN:(0:Int)≤N∧(N:Int)≤131072:=oC hN.pos;clear hT hX hW hJx h hM hN;refine callsIn_of_wp Tryz.func168 rfl trivial ?_ rfl;simp only[Tryz.ntmps168,List.size_toArray,List.length_cons,List.length_nil,Nat.reduceAdd,Nat.reduceSub,Array.replicate_succ,Array.replicate_zero,List.push_toArray,List.append_toArray,List.nil_append,List.cons_append]
 gi_wp2_with fail
 refine⟨trivial,(callsIn_wide.2 HH.out).mono ?_⟩;rintro e w1 ⟨rfl,rfl⟩
 gi_wp2_with fail
 have HJ0:=jh h0;obtain⟨N1,hN1⟩:=nE (N-1);have wn:(N:Int)-1=(N1:Int):=oC HN.out.pos;have bN1:(0:Int)≤N1∧(N1:Int)≤131072:=om;clear h0 c0 c1 c3 HH hN1;have ha:=fV HN.out.pos.1 x;obtain⟨a,haa⟩:=nE (bM N x);rw[haa] at ha hY;rw[haa];have HA:=jh ha;clear haa ha
 gi_loopw [4,13] (λcv kv wr=>∃(k:Nat) (pre:List Nat),Hid (k≤N∧pre.length=k)∧kv=.int .i64 k∧cv=.int .i64 (tH N a k:Nat)∧Hid (J pre wr)∧Hid (Aq (bt::bx::f.bl) w1 wr)) (λ_ kv _=>N-(intOf kv).toNat)
 case atStart=>exact⟨0,[],jh ⟨Nat.zero_le _,rfl⟩,rfl,rfl,HJ0,jh λ_ _=>rfl⟩
 case round=>
  clear HJ0;obtain⟨k,pre,HC,rfl,rfl,HJ,HK⟩:=hrel
  by_cases hlt:k<N
  ·obtain⟨hc1,hc2⟩:=tF HA.out k hlt;obtain⟨fn,tmps,assign,body,hy,hR⟩:=hY pre (tH N a k) wr HJ.out ⟨by rw[HC.out.2],by rw[HC.out.2];exact hlt⟩;have hx1:tH N a (k+1)=dY N (tH N a k):=rfl;have hand:=J5 HN.out hc1;have mr:iX wr f S N iv ids cl U:=HM.out.keep λj hj=>HK.out j (by simp[hj]);have c0:=(show Boxed wr bt 133 (.pointer (some ⟨f.h,0,none⟩)) from(HK.out bt sj).trans HT.out).cell;have c3:=mr.c3;have cc:=mr.cc hc1;unfold Yz at hy;obtain⟨c,hc⟩:=nE (tH N a k);obtain⟨d,hd⟩:=nE (dY N c);rw[hc] at hc1 hy cc hx1 hand hR;rw[hd] at hx1 hand;rw[hc];obtain⟨e1,he1⟩:=nE (c+1);have we:(c:Int)+1=(e1:Int):=om;rw[we,wn] at hand;have bc:(0:Int)≤c∧(c:Int)<N∧(0:Int)≤e1∧(e1:Int)≤131072:=om;obtain⟨k1,hk1⟩:=nE (k+1);have wk:(k:Int)+1=(k1:Int):=om;have bk:(0:Int)≤k∧(k:Int)<N∧(0:Int)≤k1∧(k1:Int)≤131072:=om;have d1:decide ((k:Int)<N)=true:=dP om;have d2:decide (k<N)=true:=dP hlt;have NQ:=jh hx1;have X6:=jh hk1;have HC0:=jh hc;clear mr hx1 hk1 hd he1 hc hc1 hc2 hlt
   gi_wp2_with fail
   refine hR.mono ?_;rintro e W3 (⟨rfl,hJ3,hk3⟩ |⟨rfl,hJx3⟩)
   ·have HJ3:=jh hJ3;have HK3:=jh (Jy HK.out hk3);have c0:=(show Boxed W3 bt 133 (.pointer (some ⟨f.h,0,none⟩)) from(HK3.out bt sj).trans HT.out).cell;have c3:=(HM.out.keep (w':=W3) λj hj=>HK3.out j (by simp[hj])).c3;clear hJ3 hk3 cc
    gi_wp2_with fail
    go_roundw
    case rel=>exact⟨k1,pre++[c],jh ⟨oC X6.out,by rw[List.length_append,HC.out.2];exact X6.out⟩,rfl,by rw[←X6.out,NQ.out],HJ3,HK3⟩
    case measure=>simp only[intOf];have:=X6.out;omega
   ·gi_wp2_with fail
    refine bodyPost_ret (results_none rfl _ _ _) rfl ?_;exact⟨⟨_,rfl⟩,.inr ⟨_,hJx3⟩⟩
  ·have d1:decide ((k:Int)<N)=false:=dF om;have d2:decide (k<N)=false:=dF hlt
   gi_wp2_with fail
   go_end0;exact⟨⟨_,rfl⟩,.inl ⟨pre,oC HC.out,HJ.out⟩⟩
end
end
section
open Go.Shelf
section
variable {w:World} {f:iL} {S N:Nat} {iv:Value} {ids:List Int} {cl:Nat→Nat} {U:List Nat}
def aj9 (ids:List Int) (cl:Nat→Nat) (N a:Nat) (x:Int) (W0:World) (pre:List Nat) (W:World):Prop:=
 (∀j<pre.length,cl (tH N a j)≠0∧¬isId ids x (cl (tH N a j)))∧Below W0.heap.size W0 W
def afv (ids:List Int) (cl:Nat→Nat) (N a:Nat) (x:Int) (w W0:World) (c:Code) (W:World):Prop:=
 c=.ret∧∃k,Nl N cl (isId ids x) a k∧Row W (w.heap.size+1+1) 1 (λ_=>.int .i64 (k:Nat))∧Row W (w.heap.size+1+1+1) 1 (λ_=>.bool (decide (cl k≠0)))∧Below w.heap.size W0 W
theorem ug (h:iX w f S N iv ids cl U) (hN:Pw N) (ok:mM N S (bM N) ids cl U) (x:Int):
  Calls Tryz.prog 105 #[.pointer (some ⟨f.h,0,none⟩),.int .u64 x] w λe w'=>∃c,e=.returned (.tuple #[.int .i64 (c:Nat),.bool (decide (cl c≠0))])∧Nl N cl (isId ids x) (bM N x) c∧Off [] w w':=by
 refine(callsIn_wide (n:=8)).1 ?_;have HM:=jh h;have HN:=jh hN;have HK:=jh ok;have hlt:=h.lt;have HL:=jh hlt;clear h hN ok hlt;refine callsIn_of_wp_marks Tryz.func105 rfl trivial ?_ rfl;simp only[Tryz.ntmps105,List.size_toArray,List.length_cons,List.length_nil,Nat.reduceAdd,Nat.reduceSub,Array.replicate_succ,Array.replicate_zero,List.push_toArray,List.append_toArray,List.nil_append,List.cons_append]
 gi_wp2_with fail
 refine⟨trivial,(callsIn_wide.2 (PK f.h x _)).mono ?_⟩;rintro e w1 ⟨rfl,rfl⟩
 gi_wp2_with fail
 obtain⟨W0,hW0⟩:∃W0,(((((w.alloc (.cells #[.pointer (some ⟨f.h,0,none⟩)] 133)).alloc (.cells #[.int .u64 x] 25)).alloc (.cells #[.int .i64 0] 3)).alloc (.cells #[.bool false] 4)).alloc (.cells #[.pointer (some ⟨f.h,0,none⟩)] 133)).alloc (.cells #[.int .u64 x] 25)=W0:=⟨_,rfl⟩;have hb0:=Boxed.new w 133 (.pointer (some ⟨f.h,0,none⟩));have hb1:=Boxed.new (w.alloc (.cells #[.pointer (some ⟨f.h,0,none⟩)] 133)) 25 (.int .u64 x);have hb2:=Boxed.new ((w.alloc (.cells #[.pointer (some ⟨f.h,0,none⟩)] 133)).alloc (.cells #[.int .u64 x] 25)) 3 (.int .i64 0);have hb3:=Boxed.new (((w.alloc (.cells #[.pointer (some ⟨f.h,0,none⟩)] 133)).alloc (.cells #[.int .u64 x] 25)).alloc (.cells #[.int .i64 0] 3)) 4 (.bool false);have hb4:=Boxed.new ((((w.alloc (.cells #[.pointer (some ⟨f.h,0,none⟩)] 133)).alloc (.cells #[.int .u64 x] 25)).alloc (.cells #[.int .i64 0] 3)).alloc (.cells #[.bool false] 4)) 133 (.pointer (some ⟨f.h,0,none⟩));have hb5:=Boxed.new (((((w.alloc (.cells #[.pointer (some ⟨f.h,0,none⟩)] 133)).alloc (.cells #[.int .u64 x] 25)).alloc (.cells #[.int .i64 0] 3)).alloc (.cells #[.bool false] 4)).alloc (.cells #[.pointer (some ⟨f.h,0,none⟩)] 133)) 25 (.int .u64 x)
 have hB0:Below w.heap.size w W0:=by rw[←hW0];exact((((((Below.refl _ w).alloc (Nat.le_refl _) _).alloc sj _).alloc (by simp;omega) _).alloc (by simp;omega) _).alloc (by simp;omega) _).alloc (by simp;omega) _
 have hs0:W0.heap.size=w.heap.size+6:=by rw[←hW0];simp
 replace hb0:Boxed W0 w.heap.size 133 (.pointer (some ⟨f.h,0,none⟩)):=by rw[←hW0];exact((((hb0.alloc _).alloc _).alloc _).alloc _).alloc _
 simp only[World.size_alloc] at hb1 hb2 hb3 hb4 hb5
 replace hb1:Boxed W0 (w.heap.size+1) 25 (.int .u64 x):=by rw[←hW0];exact(((hb1.alloc _).alloc _).alloc _).alloc _
 replace hb2:Boxed W0 (w.heap.size+1+1) 3 (.int .i64 0):=by rw[←hW0];exact((hb2.alloc _).alloc _).alloc _
 replace hb3:Boxed W0 (w.heap.size+1+1+1) 4 (.bool false):=by rw[←hW0];exact(hb3.alloc _).alloc _
 replace hb4:Boxed W0 (w.heap.size+1+1+1+1) 133 (.pointer (some ⟨f.h,0,none⟩)):=by rw[←hW0];exact hb4.alloc _
 replace hb5:Boxed W0 (w.heap.size+1+1+1+1+1) 25 (.int .u64 x):=by rw[←hW0];exact hb5
 have hM0:iX W0 f S N iv ids cl U:=HM.out.keep λj hj=>hB0.block j (HL.out j hj);rw[hW0];have H0:=jh hb0;have H1:=jh hb1;have H2:=jh hb2;have H3:=jh hb3;have HB:=jh hB0;have uV:=jh hs0;have HM0:=jh hM0;clear hW0 hb0 hb1 hb2 hb3 hB0
 refine FN (F:=Fence.wide) rfl om (gf:=168) (lb:=#[.pointer (some ⟨w.heap.size+1+1+1+1,0,none⟩),.pointer (some ⟨w.heap.size+1+1+1+1+1,0,none⟩)]) rfl trivial (enters_of Tryz.func168 (by kernel_rfl) rfl)
  (Lb 7 om (w.heap.size+1+1+1+1) (w.heap.size+1+1+1+1+1) x W0 hM0 HN.out hb4 hb5) Jy (Vt (λj hj=>by
   rcases List.mem_cons.1 hj with e |hj
   ·omega
   ·rcases List.mem_cons.1 hj with e |hj
    ·omega
    ·have:=HL.out j hj;omega)) (Below.refl _ _) (λ_=>rfl)
  (λpre W=>aj9 ids cl N (bM N x) x W0 pre W)
  (λc _ W=>afv ids cl N (bM N x) x w W0 c W)
  (OwnFrom.and (λs A B row hs _ _=>hs) (ownFrom_below (Nat.le_refl _) (Nat.le_refl _)))
  (λc=>λs A B row hs hg hr=>by
   obtain⟨h1,k,h2,h3,h4,h5⟩:=hs;have hr':∀r,row=some r→W0.heap.size≤r:=λr e=>(hr r e).1;have hkk:∀j<w.heap.size+6,j<A.heap.size→B.heap[j]?=A.heap[j]?:=λj hj hA=>hg.block j hA λe=>oD (hr' j e.symm) uV.out
   refine⟨h1,k,h2,h3.of_block (hkk _ om h3.lt),h4.of_block (hkk _ om h4.lt),h5.grown hg (oD h5.size uV.out) λj e=>oD (hr' j e) uV.out⟩)
  ⟨λj hj=>absurd hj (Nat.not_lt_zero _),Below.refl _ _⟩
  (λ_ c a' _=>a'={ tmps:=#[.pointer (some ⟨f.h,0,none⟩),.int .u64 x,.pointer (some ⟨w.heap.size,0,none⟩),.pointer (some ⟨w.heap.size+1,0,none⟩),.pointer (some ⟨w.heap.size+1+1,0,none⟩),.pointer (some ⟨w.heap.size+1+1+1,0,none⟩),.int .i64 c,.int .i64 (cl c:Nat),.pointer (some ⟨f.h,0,none⟩),.int .u64 x,.func (.func 168) #[] #[.pointer (some ⟨w.heap.size+1+1+1+1,0,none⟩),.pointer (some ⟨w.heap.size+1+1+1+1+1,0,none⟩)],.int .i64 c,.int .i64 (cl c:Nat),undef,undef,undef,undef,undef,undef,undef,undef,undef,undef,undef,undef,undef,undef],defers:=[] })
  (λ_ _ _ _ _ _ _ hs _ _=>hs) ?assign ?body ?done ?stop
 case assign=>
  intro l pre c W K hI hR hK;clear hR;unfold Yz
  gi_wp2_with (rw[Oper.semAt_eq _ _ _ (λc h=>by cases h)];go_simp;try go_bits)
  exact hK _ _ (KeepsFrom.refl _ _) (λ_ _=>rfl) hI rfl
 case body=>
  rintro l pre c a' W hl-⟨hI,hBW⟩ rfl ⟨hcc,hlen⟩;have ha:=fV HN.out.pos.1 x;obtain⟨a,haa⟩:=nE (bM N x);rw[haa] at ha hI hcc⊢;obtain⟨hcN,hdl⟩:=tF ha pre.length hlen;rw[←hcc] at hcN hdl
  have hz:∀z<N,dl N a z<dl N a c→cl z≠0∧¬isId ids x (cl z):=λz hz hd=>by
   rw[hdl] at hd;have:=tF ha (dl N a z) (tq ha hz);have e:tH N a (dl N a z)=z:=uP ha this.1 hz this.2;have:=hI _ hd
   rwa [e] at this
  have hM:iX W f S N iv ids cl U:=HM0.out.keep λj hj=>hBW.block j (oC (HL.out j hj))
  have afw:∀(V:World) (t:Bool),Below W0.heap.size W0 V→t=decide (cl c≠0)→(cl c=0∨isId ids x (cl c))→KeepsFrom W0.heap.size V ((V.setCell ⟨w.heap.size+1+1,0,none⟩ (.int .i64 c)).setCell ⟨w.heap.size+1+1+1,0,none⟩ (.bool t))∧afv ids cl N a x w W0 .ret ((V.setCell ⟨w.heap.size+1+1,0,none⟩ (.int .i64 c)).setCell ⟨w.heap.size+1+1+1,0,none⟩ (.bool t)):=λV t hV ht hc=>by
   have b2:Boxed V (w.heap.size+1+1) 3 (.int .i64 0):=(hV.block _ (oC uV.out)).trans H2.out;have b3:Boxed V (w.heap.size+1+1+1) 4 (.bool false):=(hV.block _ (oC uV.out)).trans H3.out;have r2:Row V (w.heap.size+1+1) 1 (λ_=>.int .i64 0):=⟨_,_,b2,λi hi=>by match i,hi with |0,_=>rfl |k+1,e=>exact absurd e om⟩;have r3:Row V (w.heap.size+1+1+1) 1 (λ_=>.bool false):=⟨_,_,b3,λi hi=>by match i,hi with |0,_=>rfl |k+1,e=>exact absurd e om⟩;refine⟨((KeepsOthers.setCell _ _ _).trans (KeepsOthers.setCell _ _ _)).from _,rfl,c,⟨hcN,hc,hz⟩,?_,?_,?_⟩
   ·exact Row.setOther ((r2.set 0 _).congr λi hi=>if_pos om) (by show w.heap.size+1+1≠w.heap.size+1+1+1;omega) _
   ·rw[ht];exact((Row.setOther r3 (a:=⟨w.heap.size+1+1,0,none⟩) (by show w.heap.size+1+1+1≠w.heap.size+1+1;omega) _).set 0 _).congr λi hi=>if_pos om
   ·exact((hV.mono (oC uV.out)).setCell (p:=⟨w.heap.size+1+1,0,none⟩) (by show w.heap.size≤w.heap.size+1+1;omega) _).setCell (p:=⟨w.heap.size+1+1+1,0,none⟩) (by show w.heap.size≤w.heap.size+1+1+1;omega) _
  have FIN:=jh afw
  have cells:∀V:World,Below W0.heap.size W0 V→V.cell? ⟨w.heap.size+1+1,0,none⟩=some (.int .i64 0)∧V.frozen? ⟨w.heap.size+1+1,0,none⟩=false∧(V.setCell ⟨w.heap.size+1+1,0,none⟩ (.int .i64 c)).cell? ⟨w.heap.size+1+1+1,0,none⟩=some (.bool false)∧(V.setCell ⟨w.heap.size+1+1,0,none⟩ (.int .i64 c)).frozen? ⟨w.heap.size+1+1+1,0,none⟩=false:=λV hV=>by
   have b2:Boxed V (w.heap.size+1+1) 3 (.int .i64 0):=(hV.block _ (oC uV.out)).trans H2.out;have b3:Boxed V (w.heap.size+1+1+1) 4 (.bool false):=(hV.block _ (oC uV.out)).trans H3.out;have b4:Boxed (V.setCell ⟨w.heap.size+1+1,0,none⟩ (.int .i64 c)) (w.heap.size+1+1+1) 4 (.bool false):=(aC _ (by show w.heap.size+1+1+1≠w.heap.size+1+1;omega)).trans b3;exact⟨b2.cell,b2.frozen,b4.cell,b4.frozen⟩
  have HZ:=jh hz;have HCc:=jh hcc;have HIw:=jh hI;have HBW:=jh hBW;have bc:(0:Int)≤c∧(c:Int)<N:=om;clear hz afw hI hBW hcc
  cases hcl:cl c with
  |zero=>
   obtain⟨s0,s1,s2,s3⟩:=cells W HBW.out;have HF:=jh (FIN.out W false HBW.out (by rw[hcl];rfl) (.inl hcl));have z0:((0:Nat):Int)=0:=rfl;clear cells hM hcl
   gi_wp2_with (rw[Oper.semAt_eq _ _ _ (λc h=>by cases h)];go_simp;try go_bits)
   exact HF.out
  |succ e=>
   have hin:e∈U:=by have:=HK.out.cu c hcN om;rwa [hcl,Nat.add_sub_cancel] at this
   have hil:=HK.out.lt e hin;obtain⟨g,cap,hiv,hg⟩:=hM.sl om;have hM2:=hM;rw[hiv] at hM2;have c2:=hM2.c2;have ci:=(hM2.ic hil).1;have ct:W.cell? ⟨w.heap.size,0,none⟩=some (.pointer (some ⟨f.h,0,none⟩)):=(show Boxed W w.heap.size 133 _ from(HBW.out.block _ (oC uV.out)).trans H0.out).cell;have cx:W.cell? ⟨w.heap.size+1,0,none⟩=some (.int .u64 x):=(show Boxed W (w.heap.size+1) 25 _ from(HBW.out.block _ (oC uV.out)).trans H1.out).cell;have hle:=HK.out.le;have hSN:=HK.out.sN;have hNp:=HN.out.pos;obtain⟨IL,yT⟩:=nE ids.length;rw[yT] at c2 hil hle;have be:(0:Int)≤e∧(e:Int)<IL∧(IL:Int)≤131072:=om;obtain⟨e1,he1⟩:=nE (e+1);rw[he1];have we:(e1:Int)-1=(e:Int):=om;have we2:IntKind.i64.wrap (e:Int)=(e:Int):=(IntKind.wrap_i64 _).trans om;have be1:(0:Int)<e1∧(e1:Int)≤131073:=om
   have z0:((e1:Int)==0)=false:=by simp;omega
   have z1:(e1==0)=false:=by simp;omega
   have Fa:=jh (hcl.trans he1);have HE:=jh he1;obtain⟨y,hy⟩:=nE (aJ ids e);rw[hy] at ci;have HY:=jh hy;clear hM hM2 hiv hg hin hil hle hSN hNp yT hcl he1 hy;have HS:W.drew.cell? ⟨w.heap.size,0,none⟩=some (.pointer (some ⟨f.h,0,none⟩))∧W.drew.cell? ⟨w.heap.size+1,0,none⟩=some (.int .u64 x)∧W.drew.cell? ⟨f.h,2,none⟩=some (.slice (some ⟨g,0,none⟩) IL cap)∧W.drew.cell? ⟨g,e,none⟩=some (.int .u64 y):=⟨ct,cx,c2,ci⟩
   by_cases hxy:y=x
   ·have dx:(y==x)=true:=by simp[hxy]
    have HF:=jh (FIN.out W.drew true (below_drewN HBW.out 1) (by rw[Fa.out];simp;have:=be1;omega) (.inr (by unfold isId;rw[Fa.out,←HE.out,Nat.add_sub_cancel,HY.out,hxy])));obtain⟨s0,s1,s2,s3⟩:=cells W.drew (below_drewN HBW.out 1);have HKF:=jh ((KeepsOthers.drew W).from W0.heap.size);clear cells hxy ct cx c2 ci
    gi_wp2_with (rw[Oper.semAt_eq _ _ _ (λc h=>by cases h)];go_simp;try go_bits)
    refine rO (λw'=>w'.cell? ⟨w.heap.size,0,none⟩=some (.pointer (some ⟨f.h,0,none⟩))∧w'.cell? ⟨w.heap.size+1,0,none⟩=some (.int .u64 x)∧w'.cell? ⟨f.h,2,none⟩=some (.slice (some ⟨g,0,none⟩) IL cap)∧w'.cell? ⟨g,e,none⟩=some (.int .u64 y)) (by kernel_rfl) (by kernel_rfl) ?_;refine tC 0 ?_;refine tC 1 ?_;refine tC 2 ?_;refine tC 3 ?_;refine tC 4 ?_;refine tC 5 ?_;refine tC 6 ?_;refine tC 7 ?_;refine tC 8 ?_;refine tC 9 ?_
    try simp only[sD]
    refine dD ⟨rfl,?_⟩;clear HS;generalize W.drew=V at HF HKF s0 s1 s2 s3⊢
    gi_wp2_with (rw[Oper.semAt_eq _ _ _ (λc h=>by cases h)];go_simp;try go_bits)
    exact⟨HKF.out.trans HF.out.1,HF.out.2⟩
   ·have dx:(y==x)=false:=by simp[hxy]
    have J7:=jh hxy;clear cells hxy ct cx c2 ci
    gi_wp2_with (rw[Oper.semAt_eq _ _ _ (λc h=>by cases h)];go_simp;try go_bits)
    refine rO (λw'=>w'.cell? ⟨w.heap.size,0,none⟩=some (.pointer (some ⟨f.h,0,none⟩))∧w'.cell? ⟨w.heap.size+1,0,none⟩=some (.int .u64 x)∧w'.cell? ⟨f.h,2,none⟩=some (.slice (some ⟨g,0,none⟩) IL cap)∧w'.cell? ⟨g,e,none⟩=some (.int .u64 y)) (by kernel_rfl) (by kernel_rfl) ?_;refine tC 0 ?_;refine tC 1 ?_;refine tC 2 ?_;refine tC 3 ?_;refine tC 4 ?_;refine tC 5 ?_;refine tC 6 ?_;refine tC 7 ?_;refine tC 8 ?_;refine tC 9 ?_
    try simp only[sD]
    refine dD ⟨rfl,?_⟩
    gi_wp2_with (rw[Oper.semAt_eq _ _ _ (λc h=>by cases h)];go_simp;try go_bits)
    refine⟨(KeepsOthers.drew W).from _,λ_ _=>rfl,λj hj=>?_,below_drewN HBW.out 1⟩;rw[List.length_append] at hj
    by_cases q:j<pre.length
    ·exact HIw.out j q
    ·have ej:j=pre.length:=by simp at hj;omega
     rw[ej,←HCc.out,Fa.out];exact⟨oC be1,λq=>J7.out (by unfold isId at q;rw[←HE.out,Nat.add_sub_cancel,HY.out] at q;exact q)⟩
 case done=>
  rintro D xs W hD hS ⟨hI,hBW⟩ hK';exfalso;obtain⟨z,hz,hz0⟩:=HK.out.free;have ha:=fV HN.out.pos.1 x;have h1:=tF ha (dl N (bM N x) z) (tq ha hz);have e:tH N (bM N x) (dl N (bM N x) z)=z:=uP ha h1.1 hz h1.2;have:=(hI (dl N (bM N x) z) (by rw[hS];exact tq ha hz)).1;rw[e] at this;exact this hz0
 case stop=>
  rintro D c pre W hD ⟨rfl,k,hs,r2,r3,hB⟩ hK';have hKl:=(Array.getElem?_eq_some_iff.1 hK').1;have hne:∀j<W0.heap.size,(W.putObj D (.deferred none)).heap[j]?=W.heap[j]?:=λj hj=>World.putObj_heap_other om;have s0:=(r2.of_block (hne _ (oC uV.out))).c 0;have s1:=(r3.of_block (hne _ (oC uV.out))).c 0;have hOf:Off [] w (W.putObj D (.deferred none)):=Off.of_below (HB.out.trans hB |>.trans (belowK_b (w:=w) (Nat.le_refl _) W D _ _ om hK' rfl rfl));have CK:=jh hOf;have HSr:=jh hs;clear hOf hs r2 r3 hB hne hKl
  gi_wp2_with fail
  refine⟨sj,.inl ⟨_,_,rfl,run_takeDeferred hK',?_⟩⟩;refine⟨.tuple #[.int .i64 k,.bool (decide (cl k≠0))],by simp[results,Tryz.results105,go_sem,s0,s1],k,rfl,HSr.out,CK.out⟩
end
end
section
open Go.Shelf
section
variable {w:World} {f:iL} {S N:Nat} {ids:List Int} {U:List Nat}
theorem iX.dn {iv:Value} {cl:Nat→Nat} (h:iX w f S N iv ids cl U) (q:Nat):iX (w.drewN q) f S N iv ids cl U:=h.keep λj _=>sj
structure Nz (ids:List Int) (U:List Nat) (x:Int) (r:Option Nat):Prop where
 yes:∀i,r=some i→i∈U∧aJ ids i=x
 no:r=none→∀i∈U,aJ ids i≠x
theorem rD (h:Ap w f S N (bM N) ids U) (hN:Pw N) (x:Int):
  Calls Tryz.prog 82 #[.pointer (some ⟨f.h,0,none⟩),.int .u64 x] w λe w'=>∃r,e=.returned (mh r)∧Nz ids U x r∧Off [] w w':=by
 obtain⟨iv,cl,m,ok⟩:=h;have HV:=jh (iN m);have HF:=jh (ug m hN ok x);have HM:=jh m;have HK:=jh ok;have HN:=jh hN;clear m ok hN;go_in;go_wp2_with fail;apply mO HV;rintro e w1 ⟨rfl,rfl⟩;go_wp2_with fail;apply mO HF;rintro e w2 ⟨c,rfl,s,o⟩;have m2:iX w2 f S N iv ids cl U:=HM.out.keep λj hj=>o.block j (HM.out.lt j hj) sj;have c3:=m2.c3;have cc:=m2.cc s.1;have HS:=jh s;have HO:=jh o;have bc:(0:Int)≤c∧(c:Int)<N∧(N:Int)≤131072:=oD s.1 HN.out.pos;have hle:=HK.out.cle s.1;have hl2:=HK.out.le;have hsn:=HK.out.sN;clear m2 s o
 cases hcl:cl c with
 |zero=>
  rw[hcl] at cc;have d0:decide (0≠0)=false:=rfl;have Fa:=jh hcl;clear hcl hle hl2 hsn;go_wp2;go_ret2;exact⟨none,rfl,⟨λi hi=>(by cases hi),λ_=>HK.out.none_ (fV HN.out.pos.1 x) HS.out Fa.out⟩,HO.out⟩
 |succ e=>
  rw[hcl] at cc hle;have d0:decide (e+1≠0)=true:=dP om;obtain⟨e1,he1⟩:=nE (e+1);rw[he1] at cc d0⊢;have we:(e1:Int)-1=(e:Int):=om;have be:(0:Int)≤e∧(e:Int)≤131072∧(0:Int)<e1∧(e1:Int)≤131073:=om;have Fa:=jh hcl;clear hcl hle hl2 hsn he1;go_wp2;go_ret2;exact⟨some e,rfl,⟨λi hi=>(by cases hi;have:=HK.out.some_ HS.out (by rw[Fa.out];omega);rwa [Fa.out,Nat.add_sub_cancel] at this),λhi=>(by cases hi)⟩,HO.out⟩
theorem Ov (h:Ap w f S N (bM N) ids U):
  Calls Tryz.prog 81 #[.pointer (some ⟨f.h,0,none⟩)] w λe w'=>e=.returned (.int .i64 (U.length:Nat))∧w'=w:=by
 obtain⟨iv,cl,m,ok⟩:=h;have HV:=jh (iN m);have HA:=jh (uS m.ar);have c1:=m.c1;obtain⟨K,hK⟩:=nE U.length;rw[hK] at HA⊢;clear m ok hK;go_in;go_wp2_with fail;apply mO HV;rintro e w1 ⟨rfl,rfl⟩;go_wp2_with fail;apply mO HA;rintro e w1 ⟨rfl,rfl⟩;go_wp2;go_ret;exact⟨rfl,rfl⟩
end
end
section
open Go.Shelf
theorem Tryz.Bu:(Tryz.prog.info? 25).map (λi=>(i.zero,i.size,i.bytes))=some (some (.int .u64 0),1,8):=by kernel_rfl
theorem RH:ET 71 25 1 8:=ET.of Tryz.underlying71 Tryz.Bu rfl (by decide)
section
variable {w:World} {f:iL} {S N:Nat} {ids:List Int} {U:List Nat}
theorem iX.any {iv:Value} {cl:Nat→Nat} (h:iX w f S N iv ids cl U):∃a cap,iv=.slice a ids.length cap:=by
 rcases h.ow.2 with⟨e,e2⟩ |⟨g,cap,cur,e,_⟩
 ·exact⟨none,0,by rw[e,e2]⟩
 ·exact⟨_,cap,e⟩
theorem iX.ZQ {iv:Value} {cl:Nat→Nat} {oq:iI} {U':List Nat} {w1 w2:World} {g cap:Nat} (h:iX w f S N iv ids cl U) (a:yH w1 oq S U' (ids.length+1)) (hh:oq.h=f.ar.h) (b:Bo f.ar.bl oq.bl w w1)
  (how:w2.ownsRow 0 25 1 (.slice (some ⟨g,0,none⟩) (ids.length+1:Nat) cap) (ids.length+1) (jL ids++[.int .u64 0])) (hg:w1.grownBy w2 iv.ownBlock) (hv:Moved w1 iv g):
  iX (w2.setCell ⟨f.h,2,none⟩ (.slice (some ⟨g,0,none⟩) (ids.length+1:Nat) cap)) ⟨f.h,oq,some g,f.cb,f.cp⟩ S N (.slice (some ⟨g,0,none⟩) (ids++[0]).length cap) (ids++[0]) cl U'∧Bo f.bl (iL.bl ⟨f.h,oq,some g,f.cb,f.cp⟩) w (w2.setCell ⟨f.h,2,none⟩ (.slice (some ⟨g,0,none⟩) (ids.length+1:Nat) cap)):=by
 have hl:(ids++[0]).length=ids.length+1:=sj
 have hC:∀j∈[f.h,f.cb]++f.ig.toList,j<w.heap.size∧j∉f.ar.bl:=λj hj=>by
  rcases List.mem_append.1 hj with e |e
  ·simp only[List.mem_cons,List.not_mem_nil,or_false] at e
   rcases e with rfl |rfl
   ·exact⟨h.hr.lt,h.n3.1⟩
   ·exact⟨h.cr.lt,h.n3.2.1⟩
  ·have e:=Option.mem_toList.1 e;exact⟨h.lt j (iL.ak.2 (.inr (.inr (.inl e)))),h.n3.2.2 j e⟩
 have far:=b.far (C:=[f.h,f.cb]++f.ig.toList) (λj hj=>(hC j hj).1) λj hj=>(hC j hj).2;have hs1:=b.off.size;have hd:∀j<w1.heap.size,f.ig≠some j→w2.heap[j]?=w1.heap[j]?:=λj hj hn=>hg.block j hj λc=>hn (h.og.symm.trans c.symm)
 have Ru:∀j<w1.heap.size,f.ig≠some j→g≠j:=λj hj hn e=>by
  rcases hv with c |c
  ·exact hn (by rw[←h.og,c,e])
  ·omega
 have hhl:=h.hr.lt;have hcl:=h.cr.lt;have gh:=Ru _ om h.n2.1;have gc:=Ru _ om h.n2.2;have adT:∀j∈oq.bl,f.ig≠some j:=λj hj e=>far.2 j (List.mem_append_right _ (Option.mem_toList.2 e)) hj;have gar:∀j∈oq.bl,g≠j:=λj hj=>Ru j (a.lt j hj) (adT j hj);have ha:f.h∉oq.bl:=far.2 _ sj;refine⟨⟨?_,?_,?_,rfl,?_,h.n1,⟨λe=>gh (Option.some.inj e),λe=>gc (Option.some.inj e)⟩,ha,far.2 _ sj,λx hx hm=>gar x hm (Option.some.inj hx)⟩,⟨?_,λj hj=>?_⟩⟩
 ·rw[hl];refine(((h.hr.of_block ((hd _ om h.n2.1).trans (far.1 _ sj))).set 2 (.slice (some ⟨g,0,none⟩) (ids.length+1:Nat) cap))).congr λi hi=>?_;unfold tbH;rw[hh]
  match i,hi with |0,_=>rfl |1,_=>rfl |2,_=>rfl |3,_=>rfl |n+4,k=>omega
 ·rw[hl];exact a.keep λj hj=>(aC j λe=>ha (by have e':j=f.h:=e;rw[←e'];exact hj)).trans (hd j (a.lt j hj) (adT j hj))
 ·rw[hl]
  have e:jL (ids++[0])=jL ids++[.int .u64 0]:=by unfold jL;simp
  rw[e];exact aG how λx hx=>aC x λc=>gh ((show g=x by simpa [Value.ownBlock] using hx).trans c)
 ·exact Row.setOther (h.cr.of_block ((hd _ om h.n2.2).trans (far.1 _ sj))) (λc=>h.n1 c.symm) _
 ·have o1:Off f.bl w w1:=b.off.mono λj hj=>.inl (iL.ak.2 (.inr (.inr (.inr hj))));have o2:Off f.bl w1 w2:=⟨hg.os,hg.tape,hg.output,hg.size,λj hj hn=>hd j hj λc=>hn (iL.ak.2 (.inr (.inr (.inl c))))⟩;exact(o1.trans o2 λj hj=>.inl hj).setCell (p:=⟨f.h,2,none⟩) (iL.ak.2 (.inl rfl)) _
 ·rcases iL.ak.1 hj with e |e |e |e
  ·exact .inl (iL.ak.2 (.inl e))
  ·exact .inl (iL.ak.2 (.inr (.inl e)))
  ·have:g=j:=Option.some.inj e
   rcases hv with c |c
   ·exact .inl (iL.ak.2 (.inr (.inr (.inl (by rw[←h.og,c,this])))))
   ·exact .inr om
  ·exact(b.fQ j e).imp (λe=>iL.ak.2 (.inr (.inr (.inr e)))) id
structure aav (ids aZ:List Int) (U U':List Nat) (x:Int):Prop where
 old:∀j∈U,j∈U'∧aJ aZ j=aJ ids j
 mem:∀y,(∃j∈U',aJ aZ j=y)↔(∃j∈U,aJ ids j=y)∨y=x
def WI (w:World) (f:iL) (S N:Nat) (ids:List Int) (U:List Nat) (x:Int) (e:Ending) (w':World):Prop:=
 ∃v f' aZ U',e=.returned v∧Ap w' f' S N (bM N) aZ U'∧f'.h=f.h∧Bo f.bl f'.bl w w'∧aav ids aZ U U' x
theorem CZ (h:Ap w f S N (bM N) ids U) (hN:Pw N) (hS:S≤65536) (x:Int) (hU:(∃i∈U,aJ ids i=x)∨U.length<S):
  Calls Tryz.prog 91 #[.pointer (some ⟨f.h,0,none⟩),.int .u64 x] w (WI w f S N ids U x):=by
 obtain⟨iv,cl,m,ok⟩:=h;have HV:=jh (iN m);have HF:=jh (ug m hN ok x);have HM:=jh m;have HK:=jh ok;have HN:=jh hN;have HU:=jh hU;have vF:=jh hS;clear m ok hN hU hS;go_in;go_wp2_with fail;apply mO HV;rintro e w1 ⟨rfl,rfl⟩;go_wp2_with fail;apply mO HF;rintro e w2 ⟨c,rfl,s,o⟩;have m2:iX w2 f S N iv ids cl U:=HM.out.keep λj hj=>o.block j (HM.out.lt j hj) sj;have c3:=m2.c3;have c1:=m2.c1;have cc:=m2.cc s.1;have HS:=jh s;have HO:=jh o;have kG:=jh m2;have bc:(0:Int)≤c∧(c:Int)<N∧(N:Int)≤131072:=oD s.1 HN.out.pos;have hle:=HK.out.cle s.1;have hl2:=HK.out.le;have hsn:=HK.out.sN;clear m2 s o
 cases hcl:cl c with
 |succ e=>
  rw[hcl] at cc hle;have d0:decide (e+1≠0)=true:=dP om;obtain⟨e1,he1⟩:=nE (e+1);rw[he1] at cc d0⊢;have we:(e1:Int)-1=(e:Int):=om;have be:(0:Int)≤e∧(e:Int)≤131072∧(0:Int)<e1∧(e1:Int)≤131073:=om;have hh:=HK.out.some_ HS.out (by rw[hcl];omega);rw[hcl,Nat.add_sub_cancel] at hh;have HH:=jh hh;clear hcl hle hl2 hsn he1 c1 hh;go_wp2
  go_ret3
  refine⟨_,f,ids,U,rfl,⟨iv,cl,kG.out,HK.out⟩,rfl,Bo.aX HO.out,⟨λj hj=>⟨hj,rfl⟩,λy=>⟨.inl,λq=>q.elim id λe0=>⟨_,HH.out.1,HH.out.2.trans e0.symm⟩⟩⟩⟩
 |zero=>
  rw[hcl] at cc;have hno:=HK.out.none_ (fV HN.out.pos.1 x) HS.out hcl;have hroom:U.length<S:=HU.out.resolve_left λ⟨i,hi,e⟩=>hno i hi e;have d0:decide (0≠0)=false:=rfl;have HA:=jh (yg kG.out.ar vF.out hroom);have Fa:=jh hcl;have XY:=jh hno;obtain⟨a0,cap0,hiv⟩:=kG.out.any;clear hcl hno hroom hle;go_wp2_with fail;apply mO HA;rintro e w3 ⟨i,oq,xY,rfl,ai,aS,abg,aA,ah,ab⟩;obtain⟨i1,hi1⟩:=nE (i+1);have wi:(i:Int)+1=(i1:Int):=om;have adh:=hi1;have bi:(0:Int)≤i∧(i:Int)≤65536∧(0:Int)≤i1∧(i1:Int)≤65537:=oC vF.out;have HI1:=jh hi1
  rcases abg with⟨hb,hil⟩ |⟨hib,hb⟩
  ·subst hb;have m3:=kG.out.Dk aA ah ab;obtain⟨g,cap,adg,hg⟩:=kG.out.sl om;rw[adg] at m3;have c2:=m3.c2;have i0:=m3.ic hil;have m4:=m3.Pq i x;have c3:=m4.c3;have cc:=m4.cc HS.out.1;have cf:=m4.cf c;rw[Fa.out] at cc;have m5:=m4.Jc c (i+1);obtain⟨IL,yT⟩:=nE ids.length;have bI:(0:Int)≤IL∧(IL:Int)≤65536∧(i:Int)<IL:=oC vF.out
   have dI:((i:Int)==(IL:Int))=false:=by simp;omega
   have dI2:(i==IL)=false:=by simp;omega
   rw[yT] at c2;have M5:=jh m5;have HG:=jh (And.intro hg hil);have AB:=jh ab;have AH:=jh ah;have AI:=jh ai;clear m3 m4 m5 hiv adg hg ab ah ai aA hl2 hsn hil yT hi1 adh aS c1;go_wp2
   go_ret3
   have hne:∀j∈U,j≠i:=λj hj e=>AI.out (e▸hj)
   have e1:aJ (ids.set i x) i=x:=by unfold aJ;rw[List.getD_eq_getElem?_getD,List.getElem?_set_self HG.out.2];rfl
   have e2:∀j,j≠i→aJ (ids.set i x) j=aJ ids j:=λj hj=>by unfold aJ;rw[List.getD_eq_getElem?_getD,List.getElem?_set_ne (λe=>hj e.symm),List.getD_eq_getElem?_getD]
   have hM:=M5.out;rw[show(((i+1:Nat):Nat):Int)=(i1:Int) by have:=HI1.out;omega] at hM;refine⟨_,{ f with ar:=oq },ids.set i x,i::U,rfl,⟨_,_,hM,HK.out.put (fV HN.out.pos.1 x) HS.out Fa.out AI.out e1 (λj hj=>e2 j (hne j hj)) (by rw[List.length_set];exact Nat.le_refl _) (by rw[List.length_set];exact HG.out.2) (by rw[List.length_set];exact HK.out.le)⟩,rfl,⟨?_,λj hj=>?_⟩,⟨λj hj=>⟨List.mem_cons_of_mem _ hj,e2 j (hne j hj)⟩,λy=>⟨?_,?_⟩⟩⟩
   ·have o1:Off f.bl w1 w3:=(HO.out.mono λj hj=>by cases hj).trans AB.out.off λj hj=>.inl (iL.ak.2 (.inr (.inr (.inr hj))));exact(o1.setCell (p:=⟨g,i,none⟩) (iL.ak.2 (.inr (.inr (.inl HG.out.1)))) _).setCell (p:=⟨f.cb,c,none⟩) (iL.ak.2 (.inr (.inl rfl))) _
   ·rcases iL.ak.1 hj with e |e |e |e
    ·exact .inl (iL.ak.2 (.inl e))
    ·exact .inl (iL.ak.2 (.inr (.inl e)))
    ·exact .inl (iL.ak.2 (.inr (.inr (.inl e))))
    ·exact(AB.out.fQ j e).imp (λe=>iL.ak.2 (.inr (.inr (.inr e)))) λe=>Nat.le_trans HO.out.size e
   ·rintro⟨j,hj,e⟩
    rcases List.mem_cons.1 hj with rfl |hj
    ·exact .inr (e.symm.trans e1)
    ·exact .inl ⟨j,hj,(e2 j (hne j hj)).symm.trans e⟩
   ·rintro(⟨j,hj,e⟩ |e)
    ·exact⟨j,List.mem_cons_of_mem _ hj,(e2 j (hne j hj)).trans e⟩
    ·exact⟨i,List.mem_cons_self,e1.trans e.symm⟩
  ·subst hb;subst hib
   have hC:∀j,(j=f.h∨j=f.cb∨f.ig=some j)→w3.heap[j]?=w2.heap[j]?:=λj hj=>by
    refine ab.off.block j ?_ ?_
    ·rcases hj with rfl |rfl |e
     ·exact kG.out.hr.lt
     ·exact kG.out.cr.lt
     ·exact kG.out.lt j (iL.ak.2 (.inr (.inr (.inl e))))
    ·rcases hj with rfl |rfl |e
     ·exact kG.out.n3.1
     ·exact kG.out.n3.2.1
     ·exact kG.out.n3.2.2 j e
   have c2:=(kG.out.hr.of_block (hC _ (.inl rfl))).c 2;have c2':w3.cell? ⟨f.h,2,none⟩=some iv:=c2;have HOW:=jh (aG (w':=w3) kG.out.ow λg hg=>hC g (.inr (.inr (kG.out.og.symm.trans hg))));obtain⟨IL,yT⟩:=nE ids.length;have bI:(0:Int)≤IL∧(IL:Int)≤65536:=oC vF.out;rw[yT] at bi wi HOW;rw[hiv,yT] at c2';have NT:=jh yT;have HIv:=jh hiv;rw[hiv,yT] at HOW;have AB:=jh ab;have AH:=jh ah;have AI:=jh ai;have AA:=jh aA;have HC:=jh hC;have AS:=jh aS;have bIL:IL≤65536:=om;rw[yT];clear ab ah ai aA hl2 hsn yT hiv hi1 adh aS c1 c2 hC c3 cc
   go_wp2_with (at_builtin;refine push RH rfl _ _ rfl 0 _ _ _ HOW.out rfl #[.int .u64 0] _ rfl rfl rfl (by simp[Value.oneCell']) om om (Nat.zero_le _) ?_;intro g cp w5 hown5 hg5 hv5;refine Hid.out ?_)
   have hl1:(ids++[0]).length=IL+1:=by simp[NT.out]
   obtain⟨m6,b6⟩:=kG.out.ZQ (g:=g) (cap:=cp) AA.out AH.out AB.out (by rw[NT.out];exact hown5) (by rw[HIv.out,NT.out];exact hg5) (by rw[HIv.out,NT.out];exact hv5);have qP:w5.heap[f.h]?=w2.heap[f.h]?:=(hg5.block _ (Nat.lt_of_lt_of_le kG.out.hr.lt AB.out.off.size) λe=>kG.out.n2.1 (by rw[←kG.out.og,HIv.out,NT.out];exact e.symm)).trans (HC.out _ (.inl rfl));have c2:=(kG.out.hr.of_block qP).c 2;have c2f:=(kG.out.hr.of_block qP).frozen 2;have c2':=m6.c2;have i0:=m6.ic (i:=ids.length) (by rw[hl1,NT.out];omega);have m7:=m6.Pq ids.length x;have c3:=m7.c3;have cc:=m7.cc HS.out.1;have cf:=m7.cf c;rw[Fa.out] at cc;have m8:=m7.Jc c i1;rw[hl1] at c2';rw[NT.out] at c2' i0 c3 cc cf m8 b6;have bJ:(IL:Int)<((IL+1:Nat):Int):=om;have M8:=jh m8;have B6:=jh b6;clear m6 m7 m8 b6 qP hown5 hg5 hv5 hl1;refine jh ?_;go_wp2
   go_ret3
   have hne:∀j∈U,j<ids.length:=λj hj=>HK.out.lt j hj
   have e0:(ids++[0]).set IL x=ids++[x]:=by rw[←NT.out];simp
   have hM:=M8.out
   have e1:aJ (ids++[x]) ids.length=x:=by unfold aJ;simp
   have e2:∀j<ids.length,aJ (ids++[x]) j=aJ ids j:=λj hj=>by unfold aJ;rw[List.getD_eq_getElem?_getD,List.getElem?_append_left hj,List.getD_eq_getElem?_getD]
   rw[e0] at hM;refine⟨_,⟨f.h,oq,some g,f.cb,f.cp⟩,ids++[x],ids.length::U,rfl,⟨_,pW cl c i1,(by rw[NT.out];exact hM),?_⟩,rfl,?_,⟨λj hj=>⟨List.mem_cons_of_mem _ hj,e2 j (hne j hj)⟩,λy=>⟨?_,?_⟩⟩⟩
   ·have:=HK.out.put (i:=ids.length) (aZ:=ids++[x]) (fV HN.out.pos.1 x) HS.out Fa.out AI.out e1 (λj hj=>e2 j (hne j hj)) sj sj (by simp;exact AS.out)
    rwa [HI1.out] at this
   ·refine(Bo.aX HO.out).trans (B6.out.trans ⟨?_,λ_ hj=>.inl hj⟩);exact((Off.refl (iL.bl ⟨f.h,oq,some g,f.cb,f.cp⟩) _).setCell (p:=⟨g,IL,none⟩) (iL.ak.2 (.inr (.inr (.inl rfl)))) _).setCell (p:=⟨f.cb,c,none⟩) (iL.ak.2 (.inr (.inl rfl))) _
   ·rintro⟨j,hj,e⟩
    rcases List.mem_cons.1 hj with rfl |hj
    ·exact .inr (e.symm.trans e1)
    ·exact .inl ⟨j,hj,(e2 j (hne j hj)).symm.trans e⟩
   ·rintro(⟨j,hj,e⟩ |e)
    ·exact⟨j,List.mem_cons_of_mem _ hj,(e2 j (hne j hj)).trans e⟩
    ·exact⟨ids.length,List.mem_cons_self,e1.trans e.symm⟩
end
end
section
open Go.Shelf
theorem BX {N a c:Nat} (h:Pw N) (ha:a<N) (hc:c<N):bits BinOp.and IntKind.i64 ((c:Int)-(a:Int)) ((N:Int)-1)=((dl N a c:Nat):Int):=by
 rw[h.i64]
 rcases gN N a c with⟨h1,h2⟩ |⟨h1,h2⟩
 ·rw[h2,Int.emod_eq_of_lt om om];omega
 ·rw[h2,show(c:Int)-a=(c:Int)-a+N-N from om,Int.sub_emod_right,Int.emod_eq_of_lt om om];omega
inductive X8 (N:Nat) (h:Nat→Nat):Nat→(Nat→Nat)→Nat→Nat→(Nat→Nat)→Prop
 |stop {cl:Nat→Nat} {o c:Nat} (k:cl (dY N c)=0):X8 N h 0 cl o c (pW cl o 0)
 |skip {n:Nat} {cl cl':Nat→Nat} {o c:Nat} (k:cl (dY N c)≠0) (m:dl N (h (cl (dY N c))) (dY N c)<dl N o (dY N c)) (g:X8 N h n cl o (dY N c) cl'):X8 N h (n+1) cl o c cl'
 |move {n:Nat} {cl cl':Nat→Nat} {o c:Nat} (k:cl (dY N c)≠0) (m:¬dl N (h (cl (dY N c))) (dY N c)<dl N o (dY N c)) (g:X8 N h n (pW cl o (cl (dY N c))) (dY N c) (dY N c) cl'):X8 N h (n+1) cl o c cl'
theorem Ul.count {N:Nat} {h:Nat→Nat} {cl cl':Nat→Nat} {o c:Nat} (g:Ul N h cl o c cl'):∃n,X8 N h n cl o c cl':=by
 induction g with
 |stop k=>exact⟨0,.stop k⟩
 |skip k m _ ih=>obtain⟨n,hn⟩:=ih;exact⟨n+1,.skip k m hn⟩
 |move k m _ ih=>obtain⟨n,hn⟩:=ih;exact⟨n+1,.move k m hn⟩
section
variable {w:World} {f:iL} {S N:Nat} {iv:Value} {ids:List Int} {cl cl':Nat→Nat} {U:List Nat}
theorem Fy (h:iX w f S N iv ids cl U) (hN:Pw N) {n o:Nat} (g:X8 N (λe=>bM N (aJ ids (e-1))) n cl o o cl') (ho:o<N) (hu:∀c<N,cl c≤ids.length) (hl:ids.length≤65536):
  Calls Tryz.prog 106 #[.pointer (some ⟨f.h,0,none⟩),.int .i64 (o:Nat)] w λe w'=>e=.returned (.tuple #[])∧iX w' f S N iv ids cl' U∧Off f.bl w w':=by
 have c3:=h.c3;have HM:=jh h;have HN:=jh hN;have HG:=jh g;have HB:=jh (And.intro ho (And.intro hu hl));have bN:=hN.pos;obtain⟨N1,hN1⟩:=nE (N-1);have wn:(N:Int)-1=(N1:Int):=om;have bN1:(0:Int)≤N∧(N:Int)≤131072∧(0:Int)≤N1∧(N1:Int)≤131072∧(0:Int)≤o∧(o:Int)<N:=om;clear h hN g ho hu hl bN hN1;go_in;go_wp2
 go_step3
 go_wp2
 go_step3
 go_wp2_with fail;clear c3
 go_loopg [1,5] n (λM ov cv wr=>∃XH o1 c1,Hid (X8 N (λe=>bM N (aJ ids (e-1))) M XH o1 c1 cl')∧Hid (o1<N∧c1<N)∧ov=.int .i64 o1∧cv=.int .i64 c1∧Hid (iX wr f S N iv ids XH U)∧Hid (∀c<N,XH c≤ids.length)∧Hid (Off f.bl w wr))
 case atStart=>exact⟨cl,o,o,HG,jh ⟨HB.out.1,HB.out.1⟩,rfl,rfl,HM,jh HB.out.2.1,jh (Off.refl _ _)⟩
 case round=>
  obtain⟨XH,o1,c1,KG,KB,rfl,rfl,KM,KU,KO⟩:=hrel;have hand:=J5 HN.out KB.out.2;have hdN:dY N c1<N:=FY KB.out.2;have kg:=KG.out;generalize hD:dY N c1=d at hand hdN kg;have c3:=KM.out.c3;have cc:=KM.out.cc hdN;have KU0:=KU.out d hdN;obtain⟨f1,hf1⟩:=nE (c1+1);have wf:(c1:Int)+1=(f1:Int):=om;rw[wf,wn] at hand;have bc:(0:Int)≤c1∧(c1:Int)<N∧(0:Int)≤f1∧(f1:Int)≤131072∧(0:Int)≤d∧(d:Int)<N∧(0:Int)≤o1∧(o1:Int)<N:=oC KB.out;have HD:=jh hD;clear hf1 hD
  cases kg with
  |stop k=>
   rw[HD.out] at k;rw[k] at cc;have co:=KM.out.cc KB.out.1;have cf:=KM.out.cf o1;have HFin:=jh (KM.out.Jc o1 0);have CK:=jh (KO.out.setCell (p:=⟨f.cb,o1,none⟩) (iL.ak.2 (.inr (.inl rfl))) (.int .i64 0));clear k KU0 hdN;go_wp2_with fail;unfold Exit.noGoto;go_end0;exact⟨rfl,HFin.out,CK.out⟩
  |@skip n1 _ _ _ _ k m g0=>
   rw[HD.out] at k m g0;have HG0:=jh g0;clear g0;obtain⟨e1,hce⟩:=nE (XH d);rw[hce] at cc k m KU0;have hil:e1-1<ids.length:=om;obtain⟨g,cap,hiv,hg⟩:=KM.out.sl om;have mr:=KM.out;rw[hiv] at mr;have c2:=mr.c2;have ci:=(mr.ic hil).1;obtain⟨IL,yT⟩:=nE ids.length;rw[yT] at c2 hil KU0;obtain⟨e0,he0⟩:=nE (e1-1);have we:(e1:Int)-1=(e0:Int):=om;have be:(0:Int)≤e0∧(e0:Int)<IL∧(IL:Int)≤65536∧(0:Int)<e1∧(e1:Int)≤65536:=oC HB.out.2.2
   have z0:((e1:Int)==0)=false:=by simp;omega
   have z1:(e1==0)=false:=by simp;omega
   have HH:=jh (uf KM.out HN.out (aJ ids e0));have hh:=fV HN.out.pos.1 (aJ ids e0)
   have hm2:dl N (bM N (aJ ids e0)) d<dl N o1 d:=by rw[←he0];exact m
   obtain⟨x,hx⟩:=nE (aJ ids e0);rw[hx] at HH hh hm2;rw[he0,hx] at ci;obtain⟨hv,hhv⟩:=nE (bM N x);rw[hhv] at HH hh hm2;have a1:=BX HN.out hh hdN;have a2:=BX HN.out KB.out.1 hdN;obtain⟨y1,hy1⟩:=nE (dl N hv d);obtain⟨y2,hy2⟩:=nE (dl N o1 d);have hyb:y1<N∧y2<N:=⟨by rw[←hy1];exact tq hh hdN,by rw[←hy2];exact tq KB.out.1 hdN⟩;rw[hy1] at a1 hm2;rw[hy2] at a2 hm2;rw[wn] at a1 a2;have by1:(0:Int)≤y1∧(y1:Int)<N∧(0:Int)≤y2∧(y2:Int)<N∧(0:Int)≤hv∧(hv:Int)<N:=om;have s1:decide ((y1:Int)<y2)=true:=dP om;have s2:decide (y1<y2)=true:=dP om;have HdN:=jh hdN;clear mr hiv hg hil KU0 yT hce k m he0 hx hhv hh hm2 hy1 hy2 hyb hdN;go_wp2_with fail;apply mO HH;rintro e w4 ⟨rfl,rfl⟩;go_wp2
   go_roundg n1
   case measure=>exact Nat.lt_succ_self _
   case rel=>exact⟨XH,o1,d,HG0,jh ⟨KB.out.1,HdN.out⟩,rfl,rfl,KM,KU,KO⟩
  |@move n1 _ _ _ _ k m g0=>
   rw[HD.out] at k m g0;have HG0:=jh g0;clear g0;obtain⟨e1,hce⟩:=nE (XH d);rw[hce] at cc k m KU0;have hil:e1-1<ids.length:=om;obtain⟨g,cap,hiv,hg⟩:=KM.out.sl om;have mr:=KM.out;rw[hiv] at mr;have c2:=mr.c2;have ci:=(mr.ic hil).1;obtain⟨IL,yT⟩:=nE ids.length;rw[yT] at c2 hil KU0;obtain⟨e0,he0⟩:=nE (e1-1);have we:(e1:Int)-1=(e0:Int):=om;have be:(0:Int)≤e0∧(e0:Int)<IL∧(IL:Int)≤65536∧(0:Int)<e1∧(e1:Int)≤65536:=oC HB.out.2.2
   have z0:((e1:Int)==0)=false:=by simp;omega
   have z1:(e1==0)=false:=by simp;omega
   have HH:=jh (uf KM.out HN.out (aJ ids e0));have hh:=fV HN.out.pos.1 (aJ ids e0)
   have hm2:¬dl N (bM N (aJ ids e0)) d<dl N o1 d:=by rw[←he0];exact m
   obtain⟨x,hx⟩:=nE (aJ ids e0);rw[hx] at HH hh hm2;rw[he0,hx] at ci;obtain⟨hv,hhv⟩:=nE (bM N x);rw[hhv] at HH hh hm2;have a1:=BX HN.out hh hdN;have a2:=BX HN.out KB.out.1 hdN;obtain⟨y1,hy1⟩:=nE (dl N hv d);obtain⟨y2,hy2⟩:=nE (dl N o1 d);have hyb:y1<N∧y2<N:=⟨by rw[←hy1];exact tq hh hdN,by rw[←hy2];exact tq KB.out.1 hdN⟩;rw[hy1] at a1 hm2;rw[hy2] at a2 hm2;rw[wn] at a1 a2;have by1:(0:Int)≤y1∧(y1:Int)<N∧(0:Int)≤y2∧(y2:Int)<N∧(0:Int)≤hv∧(hv:Int)<N:=om;have s1:decide ((y1:Int)<y2)=false:=dF om;have s2:decide (y1<y2)=false:=dF om;have co:=KM.out.cc KB.out.1;have cf:=KM.out.cf o1;have Ki:=KM.out.Jc o1 e1;have kG:=jh Ki;rw[hce] at HG0
   have HKU:Hid (∀c<N,pW XH o1 e1 c≤ids.length):=jh λc hc=>by
    unfold pW
    split
    ·omega
    ·exact KU.out c hc
   have CK:=jh (KO.out.setCell (p:=⟨f.cb,o1,none⟩) (iL.ak.2 (.inr (.inl rfl))) (.int .i64 e1));have HdN:=jh hdN;clear mr hiv hg hil KU0 yT hce k m he0 hx hhv hh hm2 hy1 hy2 hyb hdN Ki;go_wp2_with fail;apply mO HH;rintro e w4 ⟨rfl,rfl⟩;go_wp2
   go_roundg n1
   case measure=>exact Nat.lt_succ_self _
   case rel=>exact⟨_,d,d,HG0,jh ⟨HdN.out,HdN.out⟩,rfl,rfl,kG,HKU,CK⟩
theorem yH.nd {f:iI} {bg:Nat} (h:yH w f S U bg):U.Nodup:=by
 obtain⟨sv,us,la,st,af,tm,R,m,o,hn⟩:=h;exact o.nd
structure afx (ids aZ:List Int) (U U':List Nat) (x:Int):Prop where
 old:∀j∈U,aJ ids j≠x→j∈U'∧aJ aZ j=aJ ids j
 mem:∀y,(∃j∈U',aJ aZ j=y)↔(∃j∈U,aJ ids j=y)∧y≠x
theorem Ow (h:Ap w f S N (bM N) ids U) (hN:Pw N) (hS:S≤65536) (x:Int) (hx:∃i∈U,aJ ids i=x):
  Calls Tryz.prog 60 #[.pointer (some ⟨f.h,0,none⟩),.int .u64 x] w λe w'=>e=.returned (.int .i64 0)∧∃aZ U',Ap w' f S N (bM N) aZ U'∧afx ids aZ U U' x∧Off f.bl w w':=by
 obtain⟨iv,cl,m,ok⟩:=h;have HV:=jh (iN m);have HF:=jh (ug m hN ok x);have HM:=jh m;have HK:=jh ok;have HN:=jh hN;have HX:=jh hx;have vF:=jh hS;clear m ok hN hx hS;go_in;go_wp2_with fail;apply mO HV;rintro e w1 ⟨rfl,rfl⟩;go_wp2_with fail;apply mO HF;rintro e w2 ⟨c,rfl,s,o⟩;have m2:iX w2 f S N iv ids cl U:=HM.out.keep λj hj=>o.block j (HM.out.lt j hj) sj;have c3:=m2.c3;have c1:=m2.c1;have cc:=m2.cc s.1;have hle:=HK.out.cle s.1;have hl2:=HK.out.le
 have hcl0:cl c≠0:=λe=>by
  obtain⟨i,hi,ei⟩:=HX.out;exact HK.out.none_ (fV HN.out.pos.1 x) s e i hi ei
 obtain⟨e,hce⟩:∃e,cl c=e+1:=⟨cl c-1,om⟩;obtain⟨heU,hex⟩:=HK.out.some_ s hcl0;rw[hce,Nat.add_sub_cancel] at heU hex;have bc:(0:Int)≤c∧(c:Int)<N∧(N:Int)≤131072:=oD s.1 HN.out.pos;have HS:=jh s;have HO:=jh o;have kG:=jh m2;rw[hce] at cc hle;have d0:decide (cl c≠0)=true:=dP hcl0;rw[d0];obtain⟨e1,he1⟩:=nE (e+1);rw[he1] at cc hle;have we:(e1:Int)-1=(e:Int):=om;have be:(0:Int)≤e∧(e:Int)≤65536∧(0:Int)<e1∧(e1:Int)≤65537:=oC vF.out;have HA:=jh (Am kG.out.ar vF.out heU);have HE:=jh (And.intro heU (And.intro hex hce));have hel:=HK.out.lt e heU;have HEL:=jh hel;clear m2 s o hle hl2 hcl0 hce heU hex d0 he1 hel;go_wp2_with fail;apply mO HA;rintro e' w3 ⟨rfl,aA,ab⟩;have m3:iX w3 f S N iv ids cl (U.erase e):=kG.out.Dk aA rfl ab;obtain⟨cl',g1,k1⟩:=HK.out.del (aZ:=ids.set e 0) kG.out.ar.nd HS.out.1 HE.out.2.2 (λj _ hj=>by unfold aJ;rw[List.getD_eq_getElem?_getD,List.getElem?_set_ne (λe=>hj e.symm),List.getD_eq_getElem?_getD]) (List.length_set ..);obtain⟨n,g2⟩:=g1.count;have HC:=jh (Fy m3 HN.out g2 HS.out.1 (λz hz=>HK.out.cle hz) (Nat.le_trans HK.out.le vF.out));have K1:=jh k1;have AB:=jh ab;clear m3 g1 g2 k1 aA ab cc c1 c3;go_wp2_with fail;apply mO HC;rintro e' w4 ⟨rfl,m4,o4⟩;obtain⟨g,cap,hiv,hg⟩:=m4.sl (oC HEL.out);rw[hiv] at m4;have c2:=m4.c2;have ci:=m4.ic HEL.out;have m5:=m4.Pq e 0;obtain⟨IL,yT⟩:=nE ids.length;have bI:(0:Int)≤e∧(e:Int)<IL∧(IL:Int)≤65536:=oF HEL.out HK.out.le vF.out;rw[yT] at c2;have M5:=jh m5;have O4:=jh o4;have HG:=jh hg;clear m4 m5 o4 hiv hg yT;go_wp2;go_ret
 have e2:∀j,j≠e→aJ (ids.set e 0) j=aJ ids j:=λj hj=>by unfold aJ;rw[List.getD_eq_getElem?_getD,List.getElem?_set_ne (λe=>hj e.symm),List.getD_eq_getElem?_getD]
 have hm':∀j,j∈U.erase e↔j≠e∧j∈U:=λj=>kG.out.ar.nd.mem_erase_iff;refine⟨rfl,ids.set e 0,U.erase e,⟨_,cl',M5.out,K1.out⟩,⟨λj hj hne=>?_,λy=>⟨?_,?_⟩⟩,?_⟩
 ·have:j≠e:=λq=>hne (by rw[q];exact HE.out.2.1);exact⟨(hm' j).2 ⟨this,hj⟩,e2 j this⟩
 ·rintro⟨j,hj,q⟩;obtain⟨h1,h2⟩:=(hm' j).1 hj;rw[e2 j h1] at q;exact⟨⟨j,h2,q⟩,λz=>h1 (HK.out.inj j h2 e HE.out.1 (by rw[q,z];exact HE.out.2.1.symm))⟩
 ·rintro⟨⟨j,hj,q⟩,hne⟩;have:j≠e:=λz=>hne (by rw[←q,z];exact HE.out.2.1);exact⟨j,(hm' j).2 ⟨this,hj⟩,(e2 j this).trans q⟩
 ·have o3:Off f.bl w1 w3:=(HO.out.mono λj hj=>by cases hj).trans AB.out.off λj hj=>.inl (iL.ak.2 (.inr (.inr (.inr hj))));exact(o3.trans O4.out λj hj=>.inl hj).setCell (p:=⟨g,e,none⟩) (iL.ak.2 (.inr (.inr (.inl HG.out)))) _
end
end
section
open Go.Shelf
theorem Oq {S:Nat} (w:World) (hS:S≤65536):
  Calls Tryz.prog 75 #[.int .i64 (S:Nat)] w λe w'=>∃f N,e=.returned (.tuple #[.pointer (some ⟨f.h,0,none⟩),.int .i64 0])∧Ap w' f S N (bM N) [] []∧Pw N∧Bo [] f.bl w w':=by
 have HA:=jh (ER (S:=S) w hS);obtain⟨S2,hS2⟩:=nE (2*S);have w2:2*(S:Int)=(S2:Int):=om;have bS:(0:Int)≤S∧(S:Int)≤65536∧(0:Int)≤S2∧(S2:Int)≤131072:=om;have HS:=jh (And.intro hS hS2);clear hS hS2;go_in;go_wp2_with fail;apply mO HA;rintro e w1 ⟨rfl,a1,o1⟩;have HA1:=jh a1;have fK:=jh o1;clear a1 o1 HA;go_wp2
 go_loopg [6] 17 (λM nv wr=>∃p:Nat,(1≤p∧p≤17)∧M+p=18∧nv=.int .i64 ((2 ^ p:Nat):Int)∧Hid (wr=w1))
 case atStart=>exact⟨1,⟨Nat.le_refl _,by decide⟩,rfl,rfl,jh rfl⟩
 case round=>
  obtain⟨p,⟨hp1,hpl⟩,hM,rfl,HW⟩:=hrel;have HPL:=jh hpl;clear hpl;have hpw:2 ^ p≤2 ^ 18:=Nat.pow_le_pow_right (by decide) om
  have h18:2 ^ 18=262144:=by decide
  have h2p:2 ^ (p+1)=2 ^ p*2:=Nat.pow_succ 2 p;have hp0:2 ^ 1≤2 ^ p:=Nat.pow_le_pow_right (by decide) hp1;have HPm:=jh (show 17<p→262144≤2 ^ p from λh=>by rw[←h18];exact Nat.pow_le_pow_right (by decide) h);obtain⟨n,hn⟩:=nE (2 ^ p);rw[hn] at hpw h2p hp0 HPm⊢
  by_cases hlt:n<S2
  ·have d1:decide ((n:Int)<S2)=true:=dP om;have d2:decide (n<S2)=true:=dP hlt;obtain⟨m,hm⟩:=nE (n*2);have wm:(n:Int)*2=(m:Int):=om;have bn:(0:Int)≤n∧(n:Int)≤131072∧(0:Int)≤m∧(m:Int)≤262144:=om
   have acX:p<17:=by
    by_cases q:p<17
    ·exact q
    ·exfalso;have:2 ^ 17≤2 ^ p:=Nat.pow_le_pow_right (by decide) om
     have h17:2 ^ 17=131072:=by decide
     omega
   have HQ:=jh (show 2 ^ (p+1)=m by rw[h2p];exact hm);have HP:=jh (And.intro acX (And.intro hp1 hM));clear hlt hm hn hpw h18 h2p hp0 acX hp1 hM;go_wp2
   go_roundg (17-p)
   case measure=>have:=HP.out;omega
   case rel=>exact⟨p+1,⟨om,oC HP.out⟩,oC HP.out,by rw[HQ.out],HW⟩
  ·have d1:decide ((n:Int)<S2)=false:=dF om;have d2:decide (n<S2)=false:=dF hlt;have bn:(0:Int)≤n∧(n:Int)≤262144:=om;have hmk:=run_make_row' (P:=Tryz.prog) 62 3 (.int .i64 0) 8 Tryz.underlying62 Tryz.ng rfl .i64 .i64 n om om wr;have HP:=jh (And.intro hp1 (And.intro hM (And.intro hlt hn)));clear hp1 hM hlt hn hpw h18 h2p hp0;go_wp2;go_ret2;obtain rfl:wr=w1:=HW.out;generalize hG:((wr.alloc (.cells (madeCells #[.int .i64 0] n) 3)).alloc (.cells #[.pointer (some ⟨wr.heap.size+1,0,none⟩),.pointer (some ⟨w.heap.size,0,none⟩),.slice none 0 0,.slice (some ⟨wr.heap.size,0,none⟩) n n] 197))=W
   have r1:Row W wr.heap.size n (λ_=>.int .i64 0):=by rw[←hG];exact(Row.made wr (.int .i64 0) n _).alloc _
   have r2:Row W (wr.heap.size+1) 4 (tbH (wr.heap.size+1) w.heap.size (.slice none 0 0) wr.heap.size n n):=by
    have:=Row.lit (n:=4) (f:=tbH (wr.heap.size+1) w.heap.size (.slice none 0 0) wr.heap.size n n) (wr.alloc (.cells (madeCells #[.int .i64 0] n) 3)) #[.pointer (some ⟨wr.heap.size+1,0,none⟩),.pointer (some ⟨w.heap.size,0,none⟩),.slice none 0 0,.slice (some ⟨wr.heap.size,0,none⟩) n n] 197 (Nat.le_refl _) lC;rw[←hG];simpa using this
   have hO:Off [] wr W:=by rw[←hG];exact((Off.refl [] wr).alloc _).alloc _
   have hsz:=fK.out.size;have hwl:=HA1.out.lt w.heap.size (iI.ak.2 (.inl rfl))
   have har:∀j∈iI.bl ⟨w.heap.size,none,0,λ_=>0⟩,j=w.heap.size:=λj hj=>by
    rcases iI.ak.1 hj with e |e |⟨k,hk,_⟩
    ·exact e
    ·cases e
    ·exact absurd hk (Nat.not_lt_zero _)
   refine⟨⟨wr.heap.size+1,⟨w.heap.size,none,0,λ_=>0⟩,none,wr.heap.size,n⟩,n,rfl,⟨.slice none 0 0,λ_=>0,⟨r2,HA1.out.keep λj hj=>hO.block j (HA1.out.lt j hj) sj,World.ownsRow_nil _ _ _ _,rfl,r1,by show wr.heap.size+1≠wr.heap.size;omega,⟨sj,sj⟩,λc=>(by have h1:wr.heap.size+1=w.heap.size:=har _ c;omega),λc=>(by have h1:wr.heap.size=w.heap.size:=har _ c;omega),λg hg=>(by cases hg)⟩,mM.zero ?_ _⟩,⟨p,HPL.out,HP.out.2.2.2.symm⟩,⟨fK.out.trans hO λj hj=>(by cases hj),λj hj=>?_⟩⟩
   ·have:=HP.out;have:=HS.out
    by_cases q:S=0
    ·have:2 ^ 1≤2 ^ p:=Nat.pow_le_pow_right (by decide) HP.out.1;omega
    ·omega
   ·rcases iL.ak.1 hj with e |e |e |e
    ·exact .inr (by have e':j=wr.heap.size+1:=e;omega)
    ·exact .inr (by have e':j=wr.heap.size:=e;omega)
    ·cases e
    ·exact .inr (oC (har _ e))
end
section
open Go.Shelf
def qY (ex:Nat→Int) (now:Int):List Nat→List Nat→Prop
 |_,[]=>True
 |U,x::xs=>(x∈U∧ex x≤now∧∀k∈U,k=x∨(ex x<ex k∨ex x=ex k∧x<k))∧qY ex now (U.erase x) xs
theorem qY.snoc {ex:Nat→Int} {now:Int} {x:Nat}:∀{xs U:List Nat},qY ex now U xs→(x∈xs.foldl List.erase U∧ex x≤now∧∀k∈xs.foldl List.erase U,k=x∨(ex x<ex k∨ex x=ex k∧x<k))→qY ex now U (xs++[x])
 |[],_,_,h=>⟨h,trivial⟩
 |_::_,_,⟨h1,h2⟩,h=>⟨h1,qY.snoc h2 h⟩
theorem qY.done {ex:Nat→Int} {now:Int}:∀{xs U:List Nat},qY ex now U xs→(∀k∈xs.foldl List.erase U,now<ex k)→vQ ex now U xs
 |[],_,_,h=>h
 |_::_,_,⟨h1,h2⟩,h=>⟨h1,qY.done h2 h⟩
theorem qY.len {ex:Nat→Int} {now:Int}:∀{xs U:List Nat},qY ex now U xs→(xs.foldl List.erase U).length+xs.length=U.length
 |[],_,_=>rfl
 |x::xs,U,⟨h1,h2⟩=>by
  have h3:=qY.len h2;have h4:=List.length_erase_of_mem h1.1;have h5:=List.length_pos_of_mem h1.1;rw[List.foldl_cons,List.length_cons];omega
theorem GQ (U xs:List Nat) (x:Nat):(xs++[x]).foldl List.erase U=(xs.foldl List.erase U).erase x:=by rw[List.foldl_append];rfl
def Cg (ex:Nat→Int) (U:List Nat) (L:List En):Prop:=∀e,e∈L↔e.i∈U∧e.k=ex e.i
def mSl (h:Nat) (w:World):Nat:=match w.cell? ⟨h,2,none⟩ with
 |some (.slice _ n _)=>n
 |_=>0
theorem oI.mSl {w:World} {f:bY} {S:Nat} {L:List En} (h:oI w f S L):mSl f.h w=L.length:=by
 obtain⟨sv,pl,m,_⟩:=h;obtain⟨a,cap,rfl⟩:=m.any;unfold Go.Proofs.YtpaeogglppampaaGreatDoor.mSl;rw[m.c2]
def NA (b Bs Bt j:Nat):Prop:=j=b∨j=Bs∨j=Bt
structure qX (b Bs Bt hh Sn:Nat) (t:Int) (ex:Nat→Int) (U:List Nat) (S:Nat→Prop) (xs:List Nat) (W:World):Prop where
 hp:∃f L,(∀j,S j↔j∈f.bl Sn)∧f.h=hh∧oI W f Sn L∧Cg ex (xs.foldl List.erase U) L
 hr:Row W b 2 (λi=>(#[Value.int .i64 (Sn:Nat),.pointer (some ⟨hh,0,none⟩)]:Array Value).getD i undef)
 bs:Row W Bs 1 (λ_=>.pointer (some ⟨b,0,none⟩))
 bt:Row W Bt 1 (λ_=>.int .i64 t)
 ap:∀j,NA b Bs Bt j→¬S j
section
variable {b Bs Bt hh Sn:Nat} {t:Int} {ex:Nat→Int} {U:List Nat} {S S':Nat→Prop} {xs xs':List Nat} {W W':World}
theorem qX.lt (h:qX b Bs Bt hh Sn t ex U S xs W):∀j,S j∨NA b Bs Bt j→j<W.heap.size:=λj hj=>by
 obtain⟨f,L,h1,_,h3,_⟩:=h.hp
 rcases hj with hj |rfl |rfl |rfl
 ·exact h3.lt j ((h1 j).1 hj)
 ·exact h.hr.lt
 ·exact h.bs.lt
 ·exact h.bt.lt
theorem qX.keep (h:qX b Bs Bt hh Sn t ex U S xs W) (k:∀j,S j∨NA b Bs Bt j→W'.heap[j]?=W.heap[j]?):qX b Bs Bt hh Sn t ex U S xs W':=by
 obtain⟨f,L,h1,h2,h3,h4⟩:=h.hp;exact⟨⟨f,L,h1,h2,h3.keep λj hj=>k j (.inl ((h1 j).2 hj)),h4⟩,h.hr.of_block (k _ (.inr (.inl rfl))),h.bs.of_block (k _ (.inr (.inr (.inl rfl)))),h.bt.of_block (k _ (.inr (.inr (.inr rfl)))),h.ap⟩
theorem StS.aX {A:List Nat} {S:Nat→Prop} (o:Off A W W') (hS:∀j∈A,S j):StS S W S W':=⟨o.os,o.tape,o.output,o.size,λj hj hn=>o.block j hj λc=>hn (hS j c),λ_ h=>.inl h⟩
theorem qX.pop {f f':bY} {L':List En} {x:Nat} (h:qX b Bs Bt hh Sn t ex U S xs W) (h1:∀j,S j↔j∈f.bl Sn) (h2:f.h=hh) (q:oI W' f' Sn L') (o:yF f f' Sn W W') (e:Cg ex ((xs++[x]).foldl List.erase U) L'):
  qX b Bs Bt hh Sn t ex U (λj=>j∈f'.bl Sn) (xs++[x]) W'∧StS S W (λj=>j∈f'.bl Sn) W':=by
 have hk:∀j,NA b Bs Bt j→W'.heap[j]?=W.heap[j]?:=λj hj=>o.off.block j (h.lt j (.inr hj)) λc=>h.ap j hj ((h1 j).2 c);refine⟨⟨⟨f',L',λ_=>Iff.rfl,o.sh.trans h2,q,e⟩,h.hr.of_block (hk _ (.inl rfl)),h.bs.of_block (hk _ (.inr (.inl rfl))),h.bt.of_block (hk _ (.inr (.inr rfl))),λj hj c=>?_⟩,⟨o.off.os,o.off.tape,o.off.output,o.off.size,λj hj hn=>o.off.block j hj λc=>hn ((h1 j).2 c),λj hj=>?_⟩⟩
 ·rcases o.fQ j c with c |c
  ·exact h.ap j hj ((h1 j).2 c)
  ·have:=h.lt j (.inr hj);omega
 ·exact(o.fQ j hj).imp (λc=>(h1 j).2 c) λc=>⟨c,q.lt j hj⟩
theorem qX.far (h:qX b Bs Bt hh Sn t ex U S xs W) (o:Off [] W W'):qX b Bs Bt hh Sn t ex U S xs W':=h.keep λj hj=>o.block j (h.lt j hj) sj
theorem Rb {w:World} {f:bY} {Sn:Nat} {x:En} {T:List En} {V:List Nat} (q:oI w f Sn (x::T)) (e:Cg ex V (x::T)):x.i∈V∧ex x.i=x.k∧∀k∈V,k=x.i∨(ex x.i<ex k∨ex x.i=ex k∧x.i<k):=by
 obtain⟨_,_,_,_,hp⟩:=q;have e1:=(e x).1 sj;refine⟨e1.1,e1.2.symm,λk hk=>?_⟩;have e2:=(e ⟨k,ex k⟩).2 ⟨hk,rfl⟩;obtain⟨c,hc,hce⟩:=List.mem_iff_getElem.1 e2;have h1:=hp.min c hc;rw[oV hc,hce,show aB (x::T) 0=x from rfl,En.nlt] at h1;have:=e1.2;simp only at h1;omega
theorem MF (q:Nat) (hq:1≤q) (TR:Sn≤65535) (hU:U.Nodup) (S0:Nat→Prop) (w:World):
  aej Fence.wide q Tryz.prog 98 #[.pointer (some ⟨Bs,0,none⟩),.pointer (some ⟨Bt,0,none⟩)] (λx:Nat=>#[.int .i64 (x:Nat)]) (λS xs W=>qX b Bs Bt hh Sn t ex U S xs W∧qY ex t U xs) (NA b Bs Bt) (λxs=>∀k∈xs.foldl List.erase U,t<ex k) S0 w:=λl J Jx W _ hT hJs hY h0=>by
 have HY:=jh hY;have HJs:=jh hJs;have HT:=jh hT;have HJ:=jh h0;have HU:=jh (And.intro hU TR);clear hY hJs h0 hT hU TR;refine callsIn_of_wp Tryz.func98 rfl trivial ?_ rfl;simp only[Tryz.ntmps98,List.size_toArray,List.length_cons,List.length_nil,Nat.reduceAdd,Nat.reduceSub,Array.replicate_succ,Array.replicate_zero,List.push_toArray,List.append_toArray,List.nil_append,List.cons_append]
 gi_wp2_with fail
 gi_loopw [5] (λ_ wr=>∃(S:Nat→Prop) (xs:List Nat),Hid (J S xs wr)∧Hid (qX b Bs Bt hh Sn t ex U S xs wr∧qY ex t U xs)) (λ_ wr=>mSl hh wr)
 case atStart=>exact⟨S0,[],HJ,HT⟩
 case round=>
  clear HJ HT;obtain⟨S,xs,KJ,KT⟩:=hrel;obtain⟨f,L,h1,h2,h3,h4⟩:=KT.out.1.hp;have c0:=KT.out.1.bs.c 0;have c1:wr.cell? ⟨b,1,none⟩=some (.pointer (some ⟨hh,0,none⟩)):=KT.out.1.hr.c 1;have TR:Sn≤65536:=oC HU.out.2;subst h2;have HM0:=sU h3 TR
  cases L with
  |nil=>
   have HM:=jh (show Calls Tryz.prog 83 #[.pointer (some ⟨f.h,0,none⟩)] wr λe w'=>e=.returned (.tuple #[.agg #[.int .i64 0,.int .i64 0],.bool false])∧Off [] wr w' from HM0);have H4:=jh h4;clear HM0 h4 h3 h1 TR HY
   gi_wp2_with fail
   refine⟨trivial,(callsIn_wide.2 HM.out).mono ?_⟩;rintro e w1 ⟨rfl,o1⟩;obtain⟨W2,hW2⟩:∃W2,w1.alloc (.cells #[.int .i64 0,.int .i64 0] 110)=W2:=⟨_,rfl⟩
   have o2:Off [] wr W2:=by rw[←hW2];exact o1.alloc _
   have HW2:=jh hW2;have O2:=jh o2;clear o1 o2 hW2 HM c0 c1
   gi_wp2_with fail
   rw[HW2.out];refine bodyPost_ret (results_none rfl _ _ _) rfl ?_;refine⟨⟨_,rfl⟩,.inl ⟨xs,S,?_,⟨KT.out.1.far O2.out,KT.out.2⟩,HJs.out _ _ _ _ _ KJ.out (.aX O2.out (λj hj=>by cases hj))⟩⟩;intro k hk;have:=(H4.out ⟨k,ex k⟩).2 ⟨hk,rfl⟩;cases this
  |cons x T=>
   have HM:=jh (show Calls Tryz.prog 83 #[.pointer (some ⟨f.h,0,none⟩)] wr λe w'=>e=.returned (.tuple #[.agg #[.int .i64 x.i,.int .i64 x.k],.bool true])∧Off [] wr w' from HM0);have HF:=jh (Rb h3 h4);have H3:=jh h3;have H4:=jh h4;have H1:=jh h1;have HSn:=jh TR;clear HM0 h4 h3 h1 TR
   gi_wp2_with fail
   refine⟨trivial,(callsIn_wide.2 HM.out).mono ?_⟩;rintro e w1 ⟨rfl,o1⟩;obtain⟨W2,hW2⟩:∃W2,w1.alloc (.cells #[.int .i64 x.i,.int .i64 x.k] 110)=W2:=⟨_,rfl⟩
   have o2:Off [] wr W2:=by rw[←hW2];exact o1.alloc _
   have hr2:Row W2 w1.heap.size 2 (λi=>(#[Value.int .i64 x.i,.int .i64 x.k]:Array Value).getD i undef):=by
    rw[←hW2];exact Row.lit _ _ _ (Nat.le_refl _) lC
   have b0:W2.cell? ⟨w1.heap.size,0,none⟩=some (.int .i64 x.i):=hr2.c 0;have b1:W2.cell? ⟨w1.heap.size,1,none⟩=some (.int .i64 x.k):=hr2.c 1;have KT2:=jh (show qX b Bs Bt f.h Sn t ex U S xs W2 from KT.out.1.far o2);have c2:W2.cell? ⟨Bt,0,none⟩=some (.int .i64 t):=KT2.out.bt.c 0;have c0:W2.cell? ⟨Bs,0,none⟩=some (.pointer (some ⟨b,0,none⟩)):=KT2.out.bs.c 0;have c1:W2.cell? ⟨b,1,none⟩=some (.pointer (some ⟨f.h,0,none⟩)):=KT2.out.hr.c 1;have hq2:oI W2 f Sn (x::T):=H3.out.keep λj hj=>o2.block j (H3.out.lt j hj) sj;have KJ2:=jh (HJs.out _ _ _ _ _ KJ.out (.aX o2 (λj hj=>by cases hj)));have HW2:=jh hW2;have O1:=jh o1.size;have O2:=jh o2;have HR2:=jh hr2
   by_cases hlt:t<x.k
   ·have d1:decide (t<x.k)=true:=dP hlt;rw[←hW2] at b1 b0 c0 c1 c2;clear o1 o2 hW2 HM hr2 hq2 HY
    gi_wp2_with (rw[Oper.semAt_eq _ _ _ (λc h=>by cases h)];go_simp;try go_bits)
    rw[HW2.out];refine bodyPost_ret (results_none rfl _ _ _) rfl ?_;refine⟨⟨_,rfl⟩,.inl ⟨xs,S,?_,⟨KT2.out,KT.out.2⟩,KJ2.out⟩⟩;intro k hk;have:=HF.out.2.1;have:=HF.out.2.2 k hk
    rcases this with rfl |e |e<;>omega
   ·have d1:decide (t<x.k)=false:=dF hlt;have HP:=jh (zT hq2 HU.out.2);have oJ:=jh hlt;rw[←hW2] at b1 b0 c0 c1 c2;clear o1 o2 hW2 HM hr2 hq2 hlt
    gi_wp2_with (rw[Oper.semAt_eq _ _ _ (λc h=>by cases h)];go_simp;try go_bits)
    rw[HW2.out];refine⟨trivial,(callsIn_wide.2 HP.out).mono ?_⟩;rintro e w3 ⟨rfl,f',L',q3,e3,l3,o3⟩
    have he:Cg ex ((xs++[x.i]).foldl List.erase U) L':=by
     rw[GQ];intro e;have nd:=kM (xs:=xs) HU.out.1;rw[e3 e,H4.out e,List.Nodup.mem_erase_iff nd];exact⟨λ⟨⟨h1,h2⟩,h3⟩=>⟨⟨h3,h1⟩,h2⟩,λ⟨⟨h3,h1⟩,h2⟩=>⟨⟨h1,h2⟩,h3⟩⟩
    obtain⟨T3,S3⟩:=KT2.out.pop H1.out rfl q3 o3 he;have D3:qY ex t U (xs++[x.i]):=KT.out.2.snoc ⟨HF.out.1,oD HF.out.2.1 oJ.out,HF.out.2.2⟩
    have hnB:w1.heap.size∉f.bl Sn:=λc=>by
     have h1:=H3.out.lt _ c;have h2:=O1.out;omega
    have b0:w3.cell? ⟨w1.heap.size,0,none⟩=some (.int .i64 x.i):=(HR2.out.of_block (o3.off.block _ HR2.out.lt hnB)).c 0;have KJ3:=jh (HJs.out _ _ _ _ _ KJ2.out S3);obtain⟨fn,tmps,assign,body,hy,hR⟩:=HY.out _ _ _ _ KJ3.out ⟨T3,D3⟩;have T3':=jh T3;have D3':=jh D3;have Q3:=jh q3;have E3:=jh he;have L3:=jh l3;have O3:=jh o3.sh;clear T3 D3 q3 he l3 o3 S3 e3 HP b1 c0 c1 c2 d1
    gi_wp2_with fail
    refine hR.mono ?_;rintro e W4 (⟨rfl,hJ4,hk4⟩ |⟨rfl,aij⟩)
    ·have J4:=jh hJ4;have K4:=jh hk4;clear hJ4 hk4
     gi_wp2_with fail
     go_roundw
     case rel=>exact⟨λj=>j∈f'.bl Sn,xs++[x.i],J4,jh ⟨T3'.out.keep K4.out.same,D3'.out⟩⟩
     case measure=>
      have q4:oI W4 f' Sn L':=Q3.out.keep λj hj=>K4.out.same j (.inl hj);have m1:=q4.mSl;have m2:=H3.out.mSl;rw[O3.out] at m1;rw[m1,m2,L3.out,List.length_cons];omega
    ·gi_wp2_with fail
     refine bodyPost_ret (results_none rfl _ _ _) rfl ?_;exact⟨⟨_,rfl⟩,.inr ⟨_,aij⟩⟩
end
end
end Go.Proofs.YtpaeogglppampaaGreatDoor
