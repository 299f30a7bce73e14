/- The law TopMinimax returns true for every input; each argument reads behind the call as before it; nothing that lay before the call has turned. Conditions: those of the card alone (the library's two tables of de Bruijn are as their initialisers lay them). -/
import Derived.Test.YtpaeogglppampaaGreatDoorQH
import Derived.Test.YtpaeogglppampaaGreatDoorQN
import Derived.Test.YtpaeogglppampaaGreatDoorQW
set_option maxRecDepth 100000
set_option maxHeartbeats 16000000
namespace Go.Proofs.YtpaeogglppampaaGreatDoor.topMinimax
open Go.ChangeShapes Go.WideShapes Go.ChangeAt Go.RowKit
theorem contract (H:Type) (enc:TypeId × Value→H) (W:World) (base:Nat) (args:Array Value) (ds gs:List (DataW H)) (before:List MemPlace)
  (hval:∀(j:Nat) t v,Tryz.f3.params[j]?=some t→args[j]?=some v→Value.okWide Tryz.prog W .any base t v)
  (hW:DataW.Whole enc Tryz.prog Tryz.f3.params.toList Rows.topMinimaxSpec.vars false W args.toList ds gs before) (hL:laidMetH Tryz.prog Rows.topMinimaxRow.laid W):
  Calls Tryz.prog 3 args W λe W'=>∃v,e=.returned v∧Rows.topMinimaxSpec.post enc Tryz.prog Tryz.f3 false true false false W args v W':=by
 have hW':=hW;have hT:=EH hL;obtain⟨p,q,hA0,hV,rfl,hfz,hnd⟩:=hW;have hA:DataW.TrodAll enc Tryz.prog W 0 (λ_=>true) true Tryz.f3.params.toList args.toList ds p:=hA0;rw[Tryz.params3] at hA hval;obtain⟨v0,vs0,d0,ds0,p0,q0,hargs,rfl,rfl,h0,r0⟩:=trodAll_cons hA;obtain⟨v1,vs1,d1,ds1,p1,q1,rfl,rfl,rfl,h1,r1⟩:=trodAll_cons r0;obtain⟨v2,vs2,d2,ds2,p2,q2,rfl,rfl,rfl,h2,r2⟩:=trodAll_cons r1;obtain⟨v3,vs3,d3,ds3,p3,q3,rfl,rfl,rfl,h3,r3⟩:=trodAll_cons r2;obtain⟨rfl,rfl,rfl⟩:=trodAll_nil r3
 obtain rfl:args=#[v0,v1,v2,v3]:=by cases args;simp_all
 obtain⟨rfl,rfl⟩:=trodVars_none hV;have k0:=h0
 have lt0:∀x∈p0,x.block<W.heap.size:=by obtain⟨m,hm⟩:=k0;exact DataW.trod_lt m _ _ _ hm
 obtain⟨W0,X0,Y0,Z0,rfl,fw0⟩:=SE (hval 0 23 v0 rfl rfl) h0;have k1:=h1
 have lt1:∀x∈p1,x.block<W.heap.size:=by obtain⟨m,hm⟩:=k1;exact DataW.trod_lt m _ _ _ hm
 obtain⟨a1,c1,L1,A1,rfl,hS1,hl1,hw1⟩:=Hu (hval 1 24 v1 rfl rfl) h1;obtain⟨x2,rfl,rfl,rfl,wf2⟩:=open_int Tryz.underlying25 (hval 2 25 v2 rfl rfl) h2;obtain⟨x3,rfl,rfl,rfl,wf3⟩:=open_int Tryz.underlying25 (hval 3 25 v3 rfl rfl) h3;clear hA0;refine(Qo W0 X0 Y0 Z0 x2 x3 hS1 hl1 hw1 fw0 hT).mono λe W' ⟨he,dO⟩=>?_;subst he;exact⟨_,rfl,_,_,_,[],_,[],hW',trodAll_mk1 (shut_bool Tryz.underlying4 _),(trodAll_cons_mk (Below.trod laidOut (by kernel_rfl) (of_decide_eq_true (by kernel_rfl)) k0 dO lt0) (trodAll_cons_mk (Below.trod laidOut (by kernel_rfl) (of_decide_eq_true (by kernel_rfl)) k1 dO lt1) (trodAll_cons_mk (shut_int Tryz.underlying25 wf2) (trodAll_cons_mk (shut_int Tryz.underlying25 wf3) trodAll_mk0)))),rfl,dO.frame _,λh=>by cases h⟩
theorem QT (os:Os):laidMet Tryz.prog Rows.topMinimaxRow.laid ((uG os).forCall (λ_ _=>0) ⟨#[],#[Value.agg #[.int .i64 0,.int .i64 0,.int .i64 0,.int .i64 0],.slice none 0 0,.int .u64 0,.int .u64 0],[]⟩).memory:=
 laidMet_of_run' 8 (by kernel_rfl) (by kernel_rfl)
theorem reads (os:Os) (H:Type) (enc:TypeId × Value→H):∃places,DataW.whole enc Tryz.prog ((uG os).forCall (λ_ _=>0) ⟨#[],#[Value.agg #[.int .i64 0,.int .i64 0,.int .i64 0,.int .i64 0],.slice none 0 0,.int .u64 0,.int .u64 0],[]⟩).memory Tryz.f3.params.toList Rows.topMinimaxSpec.vars false #[Value.agg #[.int .i64 0,.int .i64 0,.int .i64 0,.int .i64 0],.slice none 0 0,.int .u64 0,.int .u64 0].toList 8=some ([.agg [.lit (.int .i64 0),.lit (.int .i64 0),.lit (.int .i64 0),.lit (.int .i64 0)],.nil,.lit (.int .u64 0),.lit (.int .u64 0)],[],places):=
 ⟨[],by kernel_rfl⟩
theorem lifted (os:Os) (started:os.Started) (H:Type) (enc:TypeId × Value→H) (F:Stop.Interp):
  ReturnsInHanded {} Tryz.checked os 3 .any ((OpenSpec.ofChange Rows.topMinimaxSpec).preRow enc Tryz.prog Tryz.f3 Rows.topMinimaxRow.domain false Rows.topMinimaxRow.laid) (((OpenSpec.ofChange Rows.topMinimaxSpec).at F).post enc Tryz.prog Tryz.f3 false true false false):=by
 obtain⟨places,hx⟩:=reads os H enc
 refine returnsInHanded_of_row (C:=Tryz.checked) (s:=OpenSpec.ofChange Rows.topMinimaxSpec) own started (by kernel_rfl) Tryz.func3
  (witness_row_at (enc:=enc) (C:=Tryz.checked) false (uG os) #[Value.agg #[.int .i64 0,.int .i64 0,.int .i64 0,.int .i64 0],.slice none 0 0,.int .u64 0,.int .u64 0] rfl (by kernel_rfl) (by kernel_rfl) (by kernel_rfl)
   (OpenSpec.preRow_of_cond 8 hx (by kernel_rfl) (λk hk=>by cases hk) (by kernel_rfl) (QT os))) ?_
 intro W base args ds gs before hval hW _ _ _ hL _ _;exact contract H enc W base args ds gs before hval hW hL
theorem said:Rows.TopMinimaxSaid:=
 OpenClaim.holds_of_cond 3 Tryz.f3 rfl rfl rfl rfl rfl rfl rfl ⟨rfl,rfl,rfl,rfl,rfl⟩ rfl rfl rfl rfl rfl (by kernel_rfl) Tryz.func3 (by kernel_rfl)
  (of_decide_eq_true (by kernel_rfl)) (by unfold Func.isWrapper;first |(rw[if_pos (by decide+kernel)];kernel_rfl) |(rw[if_neg (by decide+kernel)];exact⟨rfl,rfl⟩))
  (λos started H enc _ F=>by rw[OpenClaim.pre_eq_preRow];exact lifted os started H enc F)
theorem plain (f : FuncId) (fn : Func) (hf : Tryz.pinned.checked.prog.funcNamed "seepage/seepagetop.TopMinimax" = some f) (hfn : Tryz.pinned.checked.prog.funcs[f]? = some fn) :
  true=Tryz.pinned.checked.prog.looks []∧∀(j:Nat) t,fn.params[j]?=some t→Tryz.pinned.checked.prog.wantsStandIn t=false:=by
 obtain rfl : f = 3 := Option.some.inj ((show Tryz.prog.funcNamed "seepage/seepagetop.TopMinimax" = some 3 by kernel_rfl).symm.trans hf) |>.symm;obtain rfl:fn=Tryz.f3:=(Option.some.inj (Tryz.func3.symm.trans hfn)).symm;refine⟨by kernel_rfl,λj t ht=>?_⟩
 have all:∀t∈Tryz.f3.params,Tryz.prog.wantsStandIn t=false:=by
  rw[Tryz.params3];intro t ht;simp at ht
  rcases ht with rfl |rfl |rfl<;>kernel_rfl
 exact all t (Array.mem_of_getElem? ht)
theorem card:Rows.TopMinimaxCardSaid:=
 Claim7.holds_tied_plain_at .later [] _ _ _ _ said (λ_ h=>by cases h) (by kernel_rfl) (λ_ h=>by cases h) topMinimax_row_tie rfl ⟨rfl,rfl⟩ (by kernel_rfl) rfl plain (by kernel_rfl)
end Go.Proofs.YtpaeogglppampaaGreatDoor.topMinimax
