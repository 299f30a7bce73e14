/- Lemmas of the proof. Conditions: as each one states. -/
import Derived.Test.YtpaeogglppampaaGreatQL
import Derived.Test.YtpaeogglppampaaGreatQR
import Derived.Test.YtpaeogglppampaaGreatQS
set_option maxRecDepth 100000
set_option maxHeartbeats 16000000
namespace Go.Proofs.YtpaeogglppampaaGreat
open Go.RowKit
def sG (n cap z:Nat) (g:Nat) (b:fB) (cb fb:Nat):Array Value:=#[.slice (some ⟨g,0,none⟩) (n:Nat) cap,.int .i64 (n:Nat),.slice (some ⟨b.l,0,none⟩) z z,.slice (some ⟨b.r,0,none⟩) z z,.slice (some ⟨b.p,0,none⟩) z z,.slice (some ⟨b.h,0,none⟩) z z,.slice (some ⟨b.s,0,none⟩) z z,.pointer (some ⟨cb,0,none⟩),.pointer (some ⟨fb,0,none⟩)]
structure yD (w:World) (B:Nat) (S:List Int) (E:List Ed) (g cb fb:Nat):Prop where
 ids:vR w g S
 FU:g<B
 cl:vQ w B cb S.length E
 fd:vH w B fb S.length E
structure alh (w w':World) (s:St) (S:List Int) (K:List Nat) (g cb fb:Nat):Prop where
 kit:Held w.heap.size w' λW=>yD W w'.heap.size S (jq S s K) g cb fb
 gge:w.heap.size≤g
 sp:S.Perm (s.TU.map (aJ s.ids))
 kp:K.Perm s.U
 Qm:yK S (K.map s.rc) (jq S s K)
 Xn:tX S.length (jq S s K)
 off:Off [] w w'
section
variable {w:World} {G:dW} {c:Cf} {nw ex:Int} {ad:Nat} {s:St} {ef:Nat→Int} {U:List Nat} {f:Fs}
theorem wH (h:fQ w G c nw ad ex s ef U f) (hV:c.V≤12):
  Calls Tryz.prog 70 #[.pointer (some ⟨G.b,0,none⟩)] w λe w'=>∃S K cap z g b cb fb,e=.returned (.agg (sG S.length cap z g b cb fb))∧alh w w' s S K g cb fb:=by
 have HP:=fun{W:World} (o:Off [] w W)=>jh (VN (h.off o) hV);clear h hV;go_in;go_wp2_with fail;obtain⟨W0,hW0⟩:∃W,w.alloc (.cells #[.slice none 0 0,.int .i64 0,.slice none 0 0,.slice none 0 0,.slice none 0 0,.slice none 0 0,.slice none 0 0,.pointer none,.pointer none] 71)=W:=⟨_,rfl⟩
 have o0:Off [] w W0:=by rw[←hW0];exact(Off.refl _ _).alloc _
 have r0:Row W0 w.heap.size 9 (λi=>(#[Value.slice none 0 0,.int .i64 0,.slice none 0 0,.slice none 0 0,.slice none 0 0,.slice none 0 0,.slice none 0 0,.pointer none,.pointer none]:Array Value).getD i undef):=by
  rw[←hW0];exact Row.lit _ _ _ (Nat.le_refl _) lC
 rw[hW0];obtain⟨rb,hrb⟩:=nE w.heap.size;have Yb:=jh hrb;rw[hrb] at r0⊢;have FI:=jh o0;have yF:=jh r0;clear hW0 hrb r0 o0;refine(HP FI.out).out.mono ?_;rintro e w1 ⟨S,K,g,cap,ea,ec,lv,A,rfl,P⟩;have Ul:=jh P;obtain⟨n,hn⟩:=nE S.length;obtain⟨E,hE⟩:=nE (jq S s K);obtain⟨W1,hW1⟩:∃W,w1.alloc (.cells #[.slice (some ⟨g,0,none⟩) n cap,.int .i64 0,.slice none 0 0,.slice none 0 0,.slice none 0 0,.slice none 0 0,.slice none 0 0,.pointer none,.pointer none] 71)=W:=⟨_,rfl⟩;have HN:=jh hn;have HE:=jh hE;have hES:=P.es;have Sb:=P.Xn;rw[hE] at hES Sb⊢;rw[hn] at Sb⊢;have aqP:=Sb.GL
 have o1:Off [] w1 W1:=by rw[←hW1];exact(Off.refl _ _).alloc _
 have r1:Row W1 w1.heap.size 9 (λi=>(#[Value.slice (some ⟨g,0,none⟩) n cap,.int .i64 0,.slice none 0 0,.slice none 0 0,.slice none 0 0,.slice none 0 0,.slice none 0 0,.pointer none,.pointer none]:Array Value).getD i undef):=by
  rw[←hW1];exact Row.lit _ _ _ (Nat.le_refl _) lC
 have hs1:W1.heap.size=w1.heap.size+1:=by rw[←hW1];simp
 obtain⟨kb,hkb⟩:=nE w1.heap.size;have HKB:=jh hkb;have HW1:=jh hW1;rw[hkb] at r1 hs1;have fO:=jh o1;have HR1:=jh r1;have HES:=jh hES;have HGK:=jh Sb;have vE:=jh hs1;have hnE:(E.length:Int)≤16384:=om;clear P hn hE hES Sb o1 r1 hkb hW1 hs1;go_wp2_with fail;rw[HW1.out]
 try rw[HKB.out]
 have HB1:=jh (show Below kb w1 W1 from fO.out.below (oC HKB.out) sj);have hk1:w1.heap.size≤kb:=oC HKB.out;have hk2:kb≤w1.heap.size:=oC HKB.out;have hws:kb<W1.heap.size:=oC vE.out;have HBl:=jh (qD kb ea ec A n E W1 ((HES.out.mono hk1).below HB1.out) (Nat.le_of_lt hws) om);apply mO HBl;clear HBl;rintro e w2 ⟨bb,⟨he,rfl⟩ |⟨n2,o,b,z,hnn,G2,ho,rfl,hT,hlo⟩⟩
 ·exact absurd (sP HGK.out) he
 obtain rfl:n=n2:=Int.ofNat_inj.1 hnn;have HOa:=jh (show Off [kb] W1 w2 from Off.of_below bb);have HR2:=jh (HR1.out.below bb hws);unfold jE;clear hT hlo ho G2 bb hnn;have c1:w2.cell? ⟨kb,1,none⟩=some (.int .i64 0):=HR2.out.c 1;have c2:w2.cell? ⟨kb,2,none⟩=some (.slice none 0 0):=HR2.out.c 2;have c3:w2.cell? ⟨kb,3,none⟩=some (.slice none 0 0):=HR2.out.c 3;have c4:w2.cell? ⟨kb,4,none⟩=some (.slice none 0 0):=HR2.out.c 4;have c5:w2.cell? ⟨kb,5,none⟩=some (.slice none 0 0):=HR2.out.c 5;have c6:w2.cell? ⟨kb,6,none⟩=some (.slice none 0 0):=HR2.out.c 6;have f1:w2.frozen? ⟨kb,1,none⟩=false:=HR2.out.frozen 1;have f2:w2.frozen? ⟨kb,2,none⟩=false:=HR2.out.frozen 2;have f3:w2.frozen? ⟨kb,3,none⟩=false:=HR2.out.frozen 3;have f4:w2.frozen? ⟨kb,4,none⟩=false:=HR2.out.frozen 4;have f5:w2.frozen? ⟨kb,5,none⟩=false:=HR2.out.frozen 5;have f6:w2.frozen? ⟨kb,6,none⟩=false:=HR2.out.frozen 6;go_wp2_with fail;obtain⟨W2,hW2⟩:=nE ((((((w2.setCell ⟨kb,1,none⟩ (.int .i64 n)).setCell ⟨kb,2,none⟩ (.slice (some ⟨b.l,0,none⟩) z z)).setCell ⟨kb,3,none⟩ (.slice (some ⟨b.r,0,none⟩) z z)).setCell ⟨kb,4,none⟩ (.slice (some ⟨b.p,0,none⟩) z z)).setCell ⟨kb,5,none⟩ (.slice (some ⟨b.h,0,none⟩) z z)).setCell ⟨kb,6,none⟩ (.slice (some ⟨b.s,0,none⟩) z z))
 have r2:Row W2 kb 9 (λi=>(#[Value.slice (some ⟨g,0,none⟩) n cap,.int .i64 n,.slice (some ⟨b.l,0,none⟩) z z,.slice (some ⟨b.r,0,none⟩) z z,.slice (some ⟨b.p,0,none⟩) z z,.slice (some ⟨b.h,0,none⟩) z z,.slice (some ⟨b.s,0,none⟩) z z,.pointer none,.pointer none]:Array Value).getD i undef):=by
  rw[←hW2];refine((((((HR2.out.set 1 _).set 2 _).set 3 _).set 4 _).set 5 _).set 6 _).congr λi hi=>?_
  match i,hi with |0,_ |1,_ |2,_ |3,_ |4,_ |5,_ |6,_ |7,_ |8,_=>rfl |k+9,e=>exact absurd e om
 have o2:Off [kb] w2 W2:=by
  rw[←hW2];exact((((((Off.refl [kb] w2).setCell (p:=⟨kb,1,none⟩) sj _).setCell (p:=⟨kb,2,none⟩) sj _).setCell (p:=⟨kb,3,none⟩) sj _).setCell (p:=⟨kb,4,none⟩) sj _).setCell (p:=⟨kb,5,none⟩) sj _).setCell (p:=⟨kb,6,none⟩) sj _
 rw[hW2];have fu:=jh (HOa.out.trans o2 sj);have alG:=jh r2;clear c1 f1 c2 f2 c3 f3 c4 f4 c5 f5 c6 f6 r2 o2 hW2;have HB2:=jh (HB1.out.trans (fu.out.below (Nat.le_of_lt hws) sj));have hs2:=fu.out.size;have HC:=jh (NH kb ea ec A n E W2 ((HES.out.mono hk1).below HB2.out) om om);apply mO HC;clear HC;rintro e w3 ⟨bb,⟨he,rfl⟩ |⟨n2,cb,hnn,G2,rfl,hcb⟩⟩
 ·exact absurd (sP HGK.out) he
 obtain rfl:n=n2:=Int.ofNat_inj.1 hnn;have HR3:=jh (alG.out.below bb om);have HOb:=jh (fu.out.trans (Off.of_below (S:=[kb]) bb) sj);have HCB:=jh hcb;have yY:=bb.size;clear hcb bb G2 hnn;have c7:w3.cell? ⟨kb,7,none⟩=some (.pointer none):=HR3.out.c 7;have f7:w3.frozen? ⟨kb,7,none⟩=false:=HR3.out.frozen 7;go_wp2_with fail;obtain⟨W3,hW3⟩:=nE (w3.setCell ⟨kb,7,none⟩ (.pointer (some ⟨cb,0,none⟩)))
 have r3:Row W3 kb 9 (λi=>(#[Value.slice (some ⟨g,0,none⟩) n cap,.int .i64 n,.slice (some ⟨b.l,0,none⟩) z z,.slice (some ⟨b.r,0,none⟩) z z,.slice (some ⟨b.p,0,none⟩) z z,.slice (some ⟨b.h,0,none⟩) z z,.slice (some ⟨b.s,0,none⟩) z z,.pointer (some ⟨cb,0,none⟩),.pointer none]:Array Value).getD i undef):=by
  rw[←hW3];refine(HR3.out.set 7 _).congr λi hi=>?_
  match i,hi with |0,_ |1,_ |2,_ |3,_ |4,_ |5,_ |6,_ |7,_ |8,_=>rfl |k+9,e=>exact absurd e om
 have o3:Off [kb] w3 W3:=by
  rw[←hW3];exact(Off.refl [kb] w3).setCell (p:=⟨kb,7,none⟩) sj _
 rw[hW3];have bW:=jh (HOb.out.trans o3 sj);have alF:=jh r3;have agY:=jh o3;clear c7 f7 r3 o3 hW3;have HB3:=jh (HB1.out.trans (bW.out.below (Nat.le_of_lt hws) sj));have hs3:=agY.out.size;have HM:=jh (QH kb ea ec A n E W3 ((HES.out.mono hk1).below HB3.out) om om);apply mO HM;clear HM;rintro e w4 ⟨bb,⟨he,rfl⟩ |⟨n2,fb,hnn,G2,rfl,hfb⟩⟩
 ·exact absurd (sP HGK.out) he
 obtain rfl:n=n2:=Int.ofNat_inj.1 hnn;have HR4:=jh (alF.out.below bb om);have HOc:=jh (bW.out.trans (Off.of_below (S:=[kb]) bb) sj);have alI:=jh (agY.out.trans (Off.of_below (S:=[kb]) bb) sj);have HFB:=jh hfb;have BX:=bb.size;clear hfb bb G2 hnn;have agK:=yF.out.off Ul.out.off sj;have aqL:=yF.out.lt;have hrk:rb<kb:=oC Ul.out.off.size;have mP:=jh ((agK.off fO.out sj).off HOc.out (by simp;omega));have c0:w4.cell? ⟨kb,0,none⟩=some (.slice (some ⟨g,0,none⟩) n cap):=HR4.out.c 0;have c1:w4.cell? ⟨kb,1,none⟩=some (.int .i64 n):=HR4.out.c 1;have c2:w4.cell? ⟨kb,2,none⟩=some (.slice (some ⟨b.l,0,none⟩) z z):=HR4.out.c 2;have c3:w4.cell? ⟨kb,3,none⟩=some (.slice (some ⟨b.r,0,none⟩) z z):=HR4.out.c 3;have c4:w4.cell? ⟨kb,4,none⟩=some (.slice (some ⟨b.p,0,none⟩) z z):=HR4.out.c 4;have c5:w4.cell? ⟨kb,5,none⟩=some (.slice (some ⟨b.h,0,none⟩) z z):=HR4.out.c 5;have c6:w4.cell? ⟨kb,6,none⟩=some (.slice (some ⟨b.s,0,none⟩) z z):=HR4.out.c 6;have c7:w4.cell? ⟨kb,7,none⟩=some (.pointer (some ⟨cb,0,none⟩)):=HR4.out.c 7;have f8:w4.frozen? ⟨kb,8,none⟩=false:=HR4.out.frozen 8;have h0:w4.frozen? ⟨rb,0,none⟩=false:=mP.out.frozen 0;have h1:w4.frozen? ⟨rb,1,none⟩=false:=mP.out.frozen 1;have h2:w4.frozen? ⟨rb,2,none⟩=false:=mP.out.frozen 2;have h3:w4.frozen? ⟨rb,3,none⟩=false:=mP.out.frozen 3;have h4:w4.frozen? ⟨rb,4,none⟩=false:=mP.out.frozen 4;have h5:w4.frozen? ⟨rb,5,none⟩=false:=mP.out.frozen 5;have h6:w4.frozen? ⟨rb,6,none⟩=false:=mP.out.frozen 6;have h7:w4.frozen? ⟨rb,7,none⟩=false:=mP.out.frozen 7;have h8:w4.frozen? ⟨rb,8,none⟩=false:=mP.out.frozen 8;have q0:w4.cell? ⟨rb,0,none⟩=some (.slice none 0 0):=mP.out.c 0;have q1:w4.cell? ⟨rb,1,none⟩=some (.int .i64 0):=mP.out.c 1;have q2:w4.cell? ⟨rb,2,none⟩=some (.slice none 0 0):=mP.out.c 2;have q3:w4.cell? ⟨rb,3,none⟩=some (.slice none 0 0):=mP.out.c 3;have q4:w4.cell? ⟨rb,4,none⟩=some (.slice none 0 0):=mP.out.c 4;have q5:w4.cell? ⟨rb,5,none⟩=some (.slice none 0 0):=mP.out.c 5;have q6:w4.cell? ⟨rb,6,none⟩=some (.slice none 0 0):=mP.out.c 6;have q7:w4.cell? ⟨rb,7,none⟩=some (.pointer none):=mP.out.c 7;have q8:w4.cell? ⟨rb,8,none⟩=some (.pointer none):=mP.out.c 8;have d8:w4.cell? ⟨kb,8,none⟩=some (.pointer none):=HR4.out.c 8;have hne:rb≠kb:=om;have hne2:kb≠rb:=om;clear agK;go_wp2_with fail;obtain⟨W5,kW⟩:=nE (((((((((((w4.setCell ⟨kb,8,none⟩ (.pointer (some ⟨fb,0,none⟩)))).setCell ⟨rb,0,none⟩ (.slice (some ⟨g,0,none⟩) n cap)).setCell ⟨rb,1,none⟩ (.int .i64 n)).setCell ⟨rb,2,none⟩ (.slice (some ⟨b.l,0,none⟩) z z)).setCell ⟨rb,3,none⟩ (.slice (some ⟨b.r,0,none⟩) z z)).setCell ⟨rb,4,none⟩ (.slice (some ⟨b.p,0,none⟩) z z)).setCell ⟨rb,5,none⟩ (.slice (some ⟨b.h,0,none⟩) z z)).setCell ⟨rb,6,none⟩ (.slice (some ⟨b.s,0,none⟩) z z)).setCell ⟨rb,7,none⟩ (.pointer (some ⟨cb,0,none⟩))).setCell ⟨rb,8,none⟩ (.pointer (some ⟨fb,0,none⟩)))
 have r5:Row W5 rb 9 (λi=>(#[Value.slice (some ⟨g,0,none⟩) n cap,.int .i64 n,.slice (some ⟨b.l,0,none⟩) z z,.slice (some ⟨b.r,0,none⟩) z z,.slice (some ⟨b.p,0,none⟩) z z,.slice (some ⟨b.h,0,none⟩) z z,.slice (some ⟨b.s,0,none⟩) z z,.pointer (some ⟨cb,0,none⟩),.pointer (some ⟨fb,0,none⟩)]:Array Value).getD i undef):=by
  rw[←kW];refine((((((((((mP.out.setOther (a:=⟨kb,8,none⟩) hne _).set 0 _).set 1 _).set 2 _).set 3 _).set 4 _).set 5 _).set 6 _).set 7 _).set 8 _).congr λi hi=>?_
  match i,hi with |0,_ |1,_ |2,_ |3,_ |4,_ |5,_ |6,_ |7,_ |8,_=>rfl |k+9,e=>exact absurd e om
 have o5:Off [kb,rb] w4 W5:=by
  rw[←kW];exact((((((((((Off.refl [kb,rb] w4).setCell (p:=⟨kb,8,none⟩) sj _).setCell (p:=⟨rb,0,none⟩) sj _).setCell (p:=⟨rb,1,none⟩) sj _).setCell (p:=⟨rb,2,none⟩) sj _).setCell (p:=⟨rb,3,none⟩) sj _).setCell (p:=⟨rb,4,none⟩) sj _).setCell (p:=⟨rb,5,none⟩) sj _).setCell (p:=⟨rb,6,none⟩) sj _).setCell (p:=⟨rb,7,none⟩) sj _).setCell (p:=⟨rb,8,none⟩) sj _
 rw[kW];clear c0 c1 c2 c3 c4 c5 c6 c7 f8 d8 h0 q0 h1 q1 h2 q2 h3 q3 h4 q4 h5 q5 h6 q6 h7 q7 h8 q8 kW;have HR5:=jh r5;have mQ:=jh o5;have s0:W5.cell? ⟨rb,0,none⟩=some (.slice (some ⟨g,0,none⟩) n cap):=r5.c 0;have s1:W5.cell? ⟨rb,1,none⟩=some (.int .i64 n):=r5.c 1;have s2:W5.cell? ⟨rb,2,none⟩=some (.slice (some ⟨b.l,0,none⟩) z z):=r5.c 2;have s3:W5.cell? ⟨rb,3,none⟩=some (.slice (some ⟨b.r,0,none⟩) z z):=r5.c 3;have s4:W5.cell? ⟨rb,4,none⟩=some (.slice (some ⟨b.p,0,none⟩) z z):=r5.c 4;have s5:W5.cell? ⟨rb,5,none⟩=some (.slice (some ⟨b.h,0,none⟩) z z):=r5.c 5;have s6:W5.cell? ⟨rb,6,none⟩=some (.slice (some ⟨b.s,0,none⟩) z z):=r5.c 6;have s7:W5.cell? ⟨rb,7,none⟩=some (.pointer (some ⟨cb,0,none⟩)):=r5.c 7;have s8:W5.cell? ⟨rb,8,none⟩=some (.pointer (some ⟨fb,0,none⟩)):=r5.c 8;clear r5;refine bodyPost_ret (v:=.agg (sG n cap z g b cb fb)) (by simp[results,Tryz.results70,go_sem,s0,s1,s2,s3,s4,s5,s6,s7,s8,sG]) rfl ?_;have hWn:W0.heap.size≤w1.heap.size:=Ul.out.off.size;have hgr:rb<g:=oC Ul.out.new;have Sb:g<kb:=oC Ul.out.lt;have aqF:=mQ.out.size;have hrw:=Yb.out;have hK:∀W:World,(∀j,w.heap.size≤j→j<W5.heap.size→W.heap[j]?=W5.heap[j]?)→∀j,rb<j→j≠kb→j<w4.heap.size→W.heap[j]?=w4.heap[j]?:=λW hW j h1 h2 h3=>(hW j om om).trans (mQ.out.block j h3 (by simp;omega));refine⟨S,K,cap,z,g,b,cb,fb,by rw[HN.out],λW hW=>?_,om,Ul.out.sp,Ul.out.kp,Ul.out.Qm,Ul.out.Xn,?_⟩
 ·have h3:=hs2;have h4:=hs3;refine⟨Ul.out.ids.of_block ((hK W hW g hgr om om).trans ((HOc.out.block g om (by simp;omega)).trans (fO.out.block g om sj))),om,?_,?_⟩
  ·rw[HN.out,HE.out];exact(HCB.out W λj h1 h2=>(hK W hW j om om om).trans (alI.out.block j h2 (by simp;omega))).mono om
  ·rw[HN.out,HE.out];exact(HFB.out W λj h1 h2=>hK W hW j om om om).mono om
 ·exact((((FI.out.trans Ul.out.off sj).trans fO.out sj).trans HOc.out (by simp;omega)).trans mQ.out (by simp;omega))
end
def Lm (wb:Nat) (mk:Bool) (ver:Int) (kv:Array Value) (bu:Int) (i:Nat):Value:=
 if i=0 then .pointer (some ⟨wb,0,none⟩) else if i=1 then .bool mk else if i=2 then .int .u64 ver else if i<12 then kv.getD (i-3) undef else .int .i64 bu
def ajD:Array Value:=#[.slice none 0 0,.int .i64 0,.slice none 0 0,.slice none 0 0,.slice none 0 0,.slice none 0 0,.slice none 0 0,.pointer none,.pointer none]
def zf (w:World) (G:dW) (c:Cf) (vb:Nat):Prop:=Row w vb 13 (Lm G.b false 0 ajD 0)∧vb∉G.bl c.E
structure nJ (w:World) (G:dW) (c:Cf) (vb:Nat) (ver:Int) (s:St) (lo hi:Nat) (S:List Int) (K:List Nat) (cap z g:Nat) (b:fB) (cb fb:Nat):Prop where
 row:Row w vb 13 (Lm G.b true ver (sG S.length cap z g b cb fb) 1)
 kit:∀W:World,(∀j,lo≤j→j<hi→W.heap[j]?=w.heap[j]?)→yD W hi S (jq S s K) g cb fb
 uZ:hi≤w.heap.size
 vlt:vb<lo
 FU:∀j∈G.bl c.E,j<lo
 adM:vb∉G.bl c.E
 gge:lo≤g
 sp:S.Perm (s.TU.map (aJ s.ids))
 kp:K.Perm s.U
 Qm:yK S (K.map s.rc) (jq S s K)
 Xn:tX S.length (jq S s K)
section
variable {w w':World} {G:dW} {c:Cf} {nw ex:Int} {ad:Nat} {s:St} {ef:Nat→Int} {U:List Nat} {f:Fs} {vb lo hi:Nat} {ver:Int} {S:List Int} {K:List Nat} {cap z g:Nat} {b:fB} {cb fb:Nat}
theorem zf.off {T:List Nat} (h:zf w G c vb) (o:Off T w w') (hT:∀j∈T,j≠vb):zf w' G c vb:=⟨h.1.off o (λe=>hT _ e rfl),h.2⟩
theorem nJ.off {T:List Nat} (h:nJ w G c vb ver s lo hi S K cap z g b cb fb) (o:Off T w w') (hT:∀j∈T,j≠vb∧(j<lo∨hi≤j)):nJ w' G c vb ver s lo hi S K cap z g b cb fb:=
 ⟨h.row.off o (λe=>(hT _ e).1 rfl),λW hW=>h.kit W λj h1 h2=>(hW j h1 h2).trans (o.block j (Nat.lt_of_lt_of_le h2 h.uZ) λc=>oC ((hT j c).2)),Nat.le_trans h.uZ o.size,h.vlt,h.FU,h.adM,h.gge,h.sp,h.kp,h.Qm,h.Xn⟩
theorem nJ.self (h:nJ w G c vb ver s lo hi S K cap z g b cb fb):yD w hi S (jq S s K) g cb fb:=h.kit w λ_ _ _=>rfl
theorem lT {wb:Nat} {mk:Bool} {kv:Array Value} {bu:Int} (h:Row w vb 13 (Lm wb mk ver kv bu)):
  Calls Tryz.prog 30 #[.pointer (some ⟨vb,0,none⟩)] w λe w'=>e=.returned (.bool true)∧w'=w:=by
 have c0:w.cell? ⟨vb,0,none⟩=some (.pointer (some ⟨wb,0,none⟩)):=h.c 0;clear h;go_in;go_wp2;go_ret;exact⟨rfl,rfl⟩
theorem Dq {wb:Nat} {mk:Bool} {kv:Array Value} {bu:Int} (h:Row w vb 13 (Lm wb mk ver kv bu)):
  Calls Tryz.prog 18 #[.pointer (some ⟨vb,0,none⟩)] w λe w'=>e=.returned (.int .i64 bu)∧w'=w:=by
 have HV:=jh (lT h);have c12:w.cell? ⟨vb,12,none⟩=some (.int .i64 bu):=h.c 12;clear h;go_in;go_wp2_with fail;apply mO HV;rintro e w' ⟨rfl,rfl⟩;go_wp2;go_ret;exact⟨rfl,rfl⟩
theorem Dm (h:fQ w G c nw ad ex s ef U f) (hc:Yo c):
  Calls Tryz.prog 7 #[.pointer (some ⟨G.b,0,none⟩)] w λe w'=>∃vb,e=.returned (.tuple #[.pointer (some ⟨vb,0,none⟩),.int .i64 0])∧Off [] w w'∧w.heap.size≤vb∧zf w' G c vb:=by
 have HC:=jh (Li h);have oP:=jh h.lt;have hd:decide (c.win<1)=false:=dF (by have:=hc.win;unfold Cw at this;omega);clear h hc;go_in;go_wp2_with fail;apply mO HC;rintro e w1 ⟨rfl,o1⟩;have HO:=jh o1;clear o1 HC
 have fx:∀W,(Instr.field 23 (.agg #[.int .i64 c.win,.int .i64 c.E,.int .i64 c.V,.int .i64 c.dr]) 0).run Tryz.prog W=.ok (.int .i64 c.win) W:=λ_=>by kernel_rfl
 go_wp2;go_ret2;refine⟨_,rfl,HO.out.alloc _,HO.out.size,Row.lit _ _ _ sj lC,λhj=>?_⟩;have:=oP.out _ hj;have:=HO.out.size;omega
theorem Dn {mk:Bool} {kv:Array Value} {bu:Int} (h:Row w vb 13 (Lm G.b mk ver kv bu)) (hw:tO w G c nw ad ex s) (u:Int):
  Calls Tryz.prog 31 #[.pointer (some ⟨vb,0,none⟩),.int .u64 u] w λe w'=>∃r:Bool,e=.returned (.bool r)∧(r=true↔s.has u)∧tO w' G c nw ad ex s∧Bo (G.bl c.E) (G.bl c.E) w w':=by
 have HS:=jh (Lf hw u);have c0:w.cell? ⟨vb,0,none⟩=some (.pointer (some ⟨G.b,0,none⟩)):=h.c 0;clear h hw;go_in;go_wp2_with fail;apply mO HS;rintro e w1 ⟨y,er,rfl,hr,hw1,b1⟩;have HW:=jh (And.intro hw1 b1);clear hw1 b1 HS
 rcases hr with⟨rfl,hu⟩ |⟨rfl,hu⟩
 ·have HU:=jh hu;clear hu;go_wp2;go_ret;exact⟨true,rfl,⟨λ_=>HU.out,λ_=>rfl⟩,HW.out⟩
 ·have HU:=jh hu;clear hu;go_wp2;go_ret;exact⟨false,rfl,⟨λe=>(by cases e),λe=>absurd e HU.out⟩,HW.out⟩
theorem OA (h:zf w G c vb) (hw:fQ w G c nw ad ex s ef U f) (hV:c.V≤12) {fq:Nat} {cq:Array Value} (eq:∀args w,(callFunc fq args).run Tryz.prog w=.ok (.enter fq args) w) {P:World→Prop}
  (HQ:∀W lo hi S K cap z g b cb fb,Off [vb] w W→w.heap.size≤lo→nJ W G c vb (qc ad ex) s lo hi S K cap z g b cb fb→Calls Tryz.prog fq (#[.agg (sG S.length cap z g b cb fb)]++cq) W λe w'=>e=.returned (.tuple #[])∧P w'):
  Calls Tryz.prog 32 #[.pointer (some ⟨vb,0,none⟩),.func (.func fq) #[] cq] w λe w'=>e=.returned (.tuple #[])∧P w':=by
 have HQ:=jh HQ;have HVr:=jh (Df hw);obtain⟨ver,G7⟩:=nE (qc ad ex);rw[G7] at HVr;have acj:=jh G7;have HB:=fun{W:World} (o:Off [] w W)=>jh (wH (hw.off o) hV);have oP:=jh hw.lt;have c0:w.cell? ⟨vb,0,none⟩=some (.pointer (some ⟨G.b,0,none⟩)):=h.1.c 0;have H:=jh h;clear h hw G7;go_in;go_wp2_with fail;apply mO HVr;rintro e w1 ⟨rfl,rfl⟩;clear HVr;go_wp2_with fail;obtain⟨W1,hW1⟩:∃W,(w.alloc (.cells #[.bool true,.int .u64 ver] 63)).drew=W:=⟨_,rfl⟩
 have o1:Off [] w W1:=by rw[←hW1];exact((Off.refl _ _).alloc _).drew
 have t1:Row W1 w.heap.size 2 (λi=>(#[Value.bool true,.int .u64 ver]:Array Value).getD i undef):=by
  rw[←hW1];exact Row.lit w _ _ (Nat.le_refl _) lC
 obtain⟨tb,htb⟩:=nE w.heap.size;have IY:=jh htb;rw[htb] at t1;rw[htb];rw[hW1];obtain⟨W2,hW2⟩:=nE W1.drew;have HW2:=jh hW2
 have o2:Off [] w W2:=by rw[←hW2];exact o1.drew
 have t2:Row W2 tb 2 (λi=>(#[Value.bool true,.int .u64 ver]:Array Value).getD i undef):=by rw[←hW2];exact t1
 have v2:=H.out.1.off o2 sj;have HS:W2.cell? ⟨vb,1,none⟩=some (.bool false)∧W2.cell? ⟨vb,2,none⟩=some (.int .u64 0)∧W2.cell? ⟨tb,0,none⟩=some (.bool true)∧W2.cell? ⟨tb,1,none⟩=some (.int .u64 ver):=⟨v2.c 1,v2.c 2,t2.c 0,t2.c 1⟩;have HT2:=jh t2;have N8:=jh v2;have fu:=jh o2;clear htb hW1 hW2 o1 o2 t1 t2 v2 c0;refine aj (λW=>W.cell? ⟨vb,1,none⟩=some (.bool false)∧W.cell? ⟨vb,2,none⟩=some (.int .u64 0)∧W.cell? ⟨tb,0,none⟩=some (.bool true)∧W.cell? ⟨tb,1,none⟩=some (.int .u64 ver)) (by kernel_rfl) ?_;rw[HW2.out];refine tC 0 ?_;refine tC 1 ?_;refine tC 2 ?_;refine tC 3 ?_;refine tC 4 ?_;refine tC 5 ?_
 try simp only[sD]
 refine dD ⟨rfl,?_⟩;clear HS;have v2:=N8.out;have k0:W2.cell? ⟨vb,0,none⟩=some (.pointer (some ⟨G.b,0,none⟩)):=v2.c 0;clear v2;go_wp2_with fail;refine(HB fu.out).out.mono ?_;rintro e w3 ⟨S,K,cap,z,g,b,cb,fb,rfl,R⟩;have HR:=jh R;have v3:=N8.out.off R.off sj;have t3:=HT2.out.off R.off sj;have HV3:=jh v3;unfold sG;have c0:w3.cell? ⟨vb,0,none⟩=some (.pointer (some ⟨G.b,0,none⟩)):=v3.c 0;have c1:w3.cell? ⟨vb,1,none⟩=some (.bool false):=v3.c 1;have c2:w3.cell? ⟨vb,2,none⟩=some (.int .u64 0):=v3.c 2;have c3:w3.cell? ⟨vb,3,none⟩=some (.slice none 0 0):=v3.c 3;have c4:w3.cell? ⟨vb,4,none⟩=some (.int .i64 0):=v3.c 4;have c5:w3.cell? ⟨vb,5,none⟩=some (.slice none 0 0):=v3.c 5;have c6:w3.cell? ⟨vb,6,none⟩=some (.slice none 0 0):=v3.c 6;have c7:w3.cell? ⟨vb,7,none⟩=some (.slice none 0 0):=v3.c 7;have c8:w3.cell? ⟨vb,8,none⟩=some (.slice none 0 0):=v3.c 8;have c9:w3.cell? ⟨vb,9,none⟩=some (.slice none 0 0):=v3.c 9;have c10:w3.cell? ⟨vb,10,none⟩=some (.pointer none):=v3.c 10;have c11:w3.cell? ⟨vb,11,none⟩=some (.pointer none):=v3.c 11;have c12:w3.cell? ⟨vb,12,none⟩=some (.int .i64 0):=v3.c 12;have f1:w3.frozen? ⟨vb,1,none⟩=false:=v3.frozen 1;have f2:w3.frozen? ⟨vb,2,none⟩=false:=v3.frozen 2;have f3:w3.frozen? ⟨vb,3,none⟩=false:=v3.frozen 3;have f4:w3.frozen? ⟨vb,4,none⟩=false:=v3.frozen 4;have f5:w3.frozen? ⟨vb,5,none⟩=false:=v3.frozen 5;have f6:w3.frozen? ⟨vb,6,none⟩=false:=v3.frozen 6;have f7:w3.frozen? ⟨vb,7,none⟩=false:=v3.frozen 7;have f8:w3.frozen? ⟨vb,8,none⟩=false:=v3.frozen 8;have f9:w3.frozen? ⟨vb,9,none⟩=false:=v3.frozen 9;have f10:w3.frozen? ⟨vb,10,none⟩=false:=v3.frozen 10;have f11:w3.frozen? ⟨vb,11,none⟩=false:=v3.frozen 11;have f12:w3.frozen? ⟨vb,12,none⟩=false:=v3.frozen 12;have p0:w3.cell? ⟨tb,0,none⟩=some (.bool true):=t3.c 0;have p1:w3.cell? ⟨tb,1,none⟩=some (.int .u64 ver):=t3.c 1;have hvw:vb<w.heap.size:=Row.lt H.out.1;have hne:vb≠tb:=oC IY.out;have hne2:tb≠vb:=oC IY.out;clear R v3 t3 k0;go_wp2_with fail;obtain⟨W4,ji⟩:=nE (((((((((((((w3).setCell ⟨vb,3,none⟩ (.slice (some ⟨g,0,none⟩) S.length cap)).setCell ⟨vb,4,none⟩ (.int .i64 S.length)).setCell ⟨vb,5,none⟩ (.slice (some ⟨b.l,0,none⟩) z z)).setCell ⟨vb,6,none⟩ (.slice (some ⟨b.r,0,none⟩) z z)).setCell ⟨vb,7,none⟩ (.slice (some ⟨b.p,0,none⟩) z z)).setCell ⟨vb,8,none⟩ (.slice (some ⟨b.h,0,none⟩) z z)).setCell ⟨vb,9,none⟩ (.slice (some ⟨b.s,0,none⟩) z z)).setCell ⟨vb,10,none⟩ (.pointer (some ⟨cb,0,none⟩))).setCell ⟨vb,11,none⟩ (.pointer (some ⟨fb,0,none⟩))).setCell ⟨vb,1,none⟩ (.bool true)).setCell ⟨vb,2,none⟩ (.int .u64 ver)).setCell ⟨vb,12,none⟩ (.int .i64 1))
 have r4:Row W4 vb 13 (Lm G.b true ver (sG S.length cap z g b cb fb) 1):=by
  rw[←ji];refine((((((((((((HV3.out.set 3 _).set 4 _).set 5 _).set 6 _).set 7 _).set 8 _).set 9 _).set 10 _).set 11 _).set 1 _).set 2 _).set 12 _).congr λi hi=>?_
  match i,hi with |0,_ |1,_ |2,_ |3,_ |4,_ |5,_ |6,_ |7,_ |8,_ |9,_ |10,_ |11,_ |12,_=>rfl |k+13,e=>exact absurd e om
 have o4:Off [vb] w3 W4:=by
  rw[←ji];exact((((((((((((Off.refl [vb] w3).setCell (p:=⟨vb,3,none⟩) sj _).setCell (p:=⟨vb,4,none⟩) sj _).setCell (p:=⟨vb,5,none⟩) sj _).setCell (p:=⟨vb,6,none⟩) sj _).setCell (p:=⟨vb,7,none⟩) sj _).setCell (p:=⟨vb,8,none⟩) sj _).setCell (p:=⟨vb,9,none⟩) sj _).setCell (p:=⟨vb,10,none⟩) sj _).setCell (p:=⟨vb,11,none⟩) sj _).setCell (p:=⟨vb,1,none⟩) sj _).setCell (p:=⟨vb,2,none⟩) sj _).setCell (p:=⟨vb,12,none⟩) sj _
 rw[ji];clear c0 c1 c2 c3 c4 c5 c6 c7 c8 c9 c10 c11 c12 f1 f2 f3 f4 f5 f6 f7 f8 f9 f10 f11 f12 p0 p1 ji;have hs2:=fu.out.size;have hs3:=HR.out.off.size
 have HK:=jh (show nJ W4 G c vb ver s W2.heap.size w3.heap.size S K cap z g b cb fb from
  ⟨r4,λW hW=>HR.out.kit W λj h1 h2=>(hW j h1 h2).trans (o4.block j h2 (by simp;omega)),o4.size,om,λj hj=>oC (oP.out j hj),H.out.2,HR.out.gge,HR.out.sp,HR.out.kp,HR.out.Qm,HR.out.Xn⟩)
 have kH:=jh (show Off [vb] w W4 from((fu.out.mono (S':=[vb]) sj).trans HR.out.off sj).trans o4 sj);clear r4 o4;rw[acj.out] at HQ;refine(HQ.out _ _ _ _ _ _ _ _ _ _ _ kH.out fu.out.size HK.out).mono ?_;rintro e w5 ⟨rfl,hP⟩;have HP:=jh hP;clear hP;go_wp2;go_end0;exact⟨rfl,HP.out⟩
theorem Dj {lo hi:Nat} {S:List Int} {K:List Nat} {cap z g:Nat} {b:fB} {cb fb:Nat} (h:nJ w G c vb (qc ad ex) s lo hi S K cap z g b cb fb) (hw:fQ w G c nw ad ex s ef U f) (hV:c.V≤12) {fq:Nat} {cq:Array Value} (eq:∀args w,(callFunc fq args).run Tryz.prog w=.ok (.enter fq args) w) {P:World→Prop}
  (HQ:∀W,Off [] w W→nJ W G c vb (qc ad ex) s lo hi S K cap z g b cb fb→Calls Tryz.prog fq (#[.agg (sG S.length cap z g b cb fb)]++cq) W λe w'=>e=.returned (.tuple #[])∧P w'):
  Calls Tryz.prog 32 #[.pointer (some ⟨vb,0,none⟩),.func (.func fq) #[] cq] w λe w'=>e=.returned (.tuple #[])∧P w':=by
 have HQ:=jh HQ;have HVr:=jh (Df hw);obtain⟨ver,G7⟩:=nE (qc ad ex);rw[G7] at HVr h;have acj:=jh G7;have HB:=fun{W:World} (o:Off [] w W)=>jh (wH (hw.off o) hV);have oP:=jh hw.lt;have c0:w.cell? ⟨vb,0,none⟩=some (.pointer (some ⟨G.b,0,none⟩)):=h.row.c 0;have H:=jh h;clear h hw G7;go_in;go_wp2_with fail;apply mO HVr;rintro e w1 ⟨rfl,rfl⟩;clear HVr;go_wp2_with fail;obtain⟨W1,hW1⟩:∃W,(w.alloc (.cells #[.bool true,.int .u64 ver] 63)).drew=W:=⟨_,rfl⟩
 have o1:Off [] w W1:=by rw[←hW1];exact((Off.refl _ _).alloc _).drew
 have t1:Row W1 w.heap.size 2 (λi=>(#[Value.bool true,.int .u64 ver]:Array Value).getD i undef):=by
  rw[←hW1];exact Row.lit w _ _ (Nat.le_refl _) lC
 obtain⟨tb,htb⟩:=nE w.heap.size;have IY:=jh htb;rw[htb] at t1;rw[htb];rw[hW1];obtain⟨W2,hW2⟩:=nE W1.drew;have HW2:=jh hW2
 have o2:Off [] w W2:=by rw[←hW2];exact o1.drew
 have t2:Row W2 tb 2 (λi=>(#[Value.bool true,.int .u64 ver]:Array Value).getD i undef):=by rw[←hW2];exact t1
 have v2:=H.out.row.off o2 sj;have HS:W2.cell? ⟨vb,1,none⟩=some (.bool true)∧W2.cell? ⟨vb,2,none⟩=some (.int .u64 ver)∧W2.cell? ⟨tb,0,none⟩=some (.bool true)∧W2.cell? ⟨tb,1,none⟩=some (.int .u64 ver):=⟨v2.c 1,v2.c 2,t2.c 0,t2.c 1⟩;have HT2:=jh t2;have N8:=jh v2;have fu:=jh o2;clear htb hW1 hW2 o1 o2 t1 t2 v2 c0;refine aj (λW=>W.cell? ⟨vb,1,none⟩=some (.bool true)∧W.cell? ⟨vb,2,none⟩=some (.int .u64 ver)∧W.cell? ⟨tb,0,none⟩=some (.bool true)∧W.cell? ⟨tb,1,none⟩=some (.int .u64 ver)) (by kernel_rfl) ?_;rw[HW2.out];refine tC 0 ?_;refine tC 1 ?_;refine tC 2 ?_;refine tC 3 ?_;refine tC 4 ?_;refine tC 5 ?_
 try simp only[sD]
 refine dD ⟨rfl,?_⟩;clear HS;have v2:=N8.out;have k3:W2.cell? ⟨vb,3,none⟩=some (.slice (some ⟨g,0,none⟩) S.length cap):=v2.c 3;have k4:W2.cell? ⟨vb,4,none⟩=some (.int .i64 S.length):=v2.c 4;have k5:W2.cell? ⟨vb,5,none⟩=some (.slice (some ⟨b.l,0,none⟩) z z):=v2.c 5;have k6:W2.cell? ⟨vb,6,none⟩=some (.slice (some ⟨b.r,0,none⟩) z z):=v2.c 6;have k7:W2.cell? ⟨vb,7,none⟩=some (.slice (some ⟨b.p,0,none⟩) z z):=v2.c 7;have k8:W2.cell? ⟨vb,8,none⟩=some (.slice (some ⟨b.h,0,none⟩) z z):=v2.c 8;have k9:W2.cell? ⟨vb,9,none⟩=some (.slice (some ⟨b.s,0,none⟩) z z):=v2.c 9;have k10:W2.cell? ⟨vb,10,none⟩=some (.pointer (some ⟨cb,0,none⟩)):=v2.c 10;have k11:W2.cell? ⟨vb,11,none⟩=some (.pointer (some ⟨fb,0,none⟩)):=v2.c 11;clear v2;have HK:=jh (H.out.off fu.out sj);go_wp2_with fail;rw[acj.out] at HQ;refine(HQ.out _ fu.out HK.out).mono ?_;rintro e w5 ⟨rfl,hP⟩;have HP:=jh hP;clear hP;go_wp2;go_end0;exact⟨rfl,HP.out⟩
end
section
variable {w w':World} {B n:Nat} {S:List Int} {E:List Ed} {g cb fb:Nat}
theorem yD.below (h:yD w B S E g cb fb) (hb:Below B w w'):yD w' B S E g cb fb:=⟨h.ids.of_block (hb.block g h.FU),h.FU,h.cl.below hb,h.fd.below hb⟩
theorem yD.off {T:List Nat} (h:yD w B S E g cb fb) (o:Off T w w') (hB:B≤w.heap.size) (hT:∀j∈T,B≤j):yD w' B S E g cb fb:=h.below (o.below hB hT)
theorem Kw {W:World} (h:yD W B S E g cb fb) (hB:B≤W.heap.size) {cap z:Nat} {b:fB} {u θ:Int} {ub tb gb p:Nat} (hu:W.cell? ⟨ub,0,none⟩=some (.int .u64 u)) (ht:W.cell? ⟨tb,0,none⟩=some (.int .i64 θ)) (MU:ub<W.heap.size) (htl:tb<W.heap.size) {x0 x1:Value} (hg:Row W gb 2 (λi=>(#[x0,x1]:Array Value).getD i undef))
  (hp:p<S.length) (FT:aR S p=u) (hgg:g≠gb):
  Calls Tryz.prog 33 #[.agg (sG S.length cap z g b cb fb),.pointer (some ⟨ub,0,none⟩),.pointer (some ⟨tb,0,none⟩),.pointer (some ⟨gb,0,none⟩)] W λe w'=>e=.returned (.tuple #[])∧Off [gb] W w'∧Row w' gb 2 (λi=>(#[Value.int .u64 (aR S (gV E θ p)),.int .i64 (bO S.length (gV E θ) p:Nat)]:Array Value).getD i undef):=by
 obtain⟨lb,hlb⟩:=nE (gV E θ p);obtain⟨sz,hsz⟩:=nE (bO S.length (gV E θ) p)
 have hlt:lb<S.length:=by rw[←hlb];exact BK hp
 obtain⟨y,hy⟩:=nE (aR S lb);rw[hlb,hsz,hy];have HLB:=jh (And.intro hlb (And.intro hsz hy));unfold sG;go_in;go_wp2_with fail;obtain⟨kb,hkb⟩:=nE W.heap.size;obtain⟨W1,hW1⟩:∃W1,(W.alloc (.cells #[.slice (some ⟨g,0,none⟩) S.length cap,.int .i64 S.length,.slice (some ⟨b.l,0,none⟩) z z,.slice (some ⟨b.r,0,none⟩) z z,.slice (some ⟨b.p,0,none⟩) z z,.slice (some ⟨b.h,0,none⟩) z z,.slice (some ⟨b.s,0,none⟩) z z,.pointer (some ⟨cb,0,none⟩),.pointer (some ⟨fb,0,none⟩)] 71)).drew=W1:=⟨_,rfl⟩
 have o1:Off [] W W1:=by rw[←hW1];exact((Off.refl _ _).alloc _).drew
 have r1:Row W1 kb 9 (λi=>(sG S.length cap z g b cb fb).getD i undef):=by
  rw[←hW1,←hkb];exact Row.lit W _ _ (Nat.le_refl _) lC
 have HC:∀V:World,Off [] W1 V→V.cell? ⟨kb,0,none⟩=some (.slice (some ⟨g,0,none⟩) S.length cap)∧V.cell? ⟨kb,7,none⟩=some (.pointer (some ⟨cb,0,none⟩))∧V.cell? ⟨ub,0,none⟩=some (.int .u64 u)∧V.cell? ⟨tb,0,none⟩=some (.int .i64 θ):=λV o=>by
  have r:=r1.off o sj;have oo:=o1.trans o sj;exact⟨r.c 0,r.c 7,(World.cell?_of_block (oo.block ub MU sj)).trans hu,(World.cell?_of_block (oo.block tb htl sj)).trans ht⟩
 have HC:=jh HC;have HK:=jh (fun(V:World) (o:Off [] W1 V)=>(h.off (o1.trans o sj) hB sj));have U3:=fun{V:World} (o:Off [] W1 V)=>jh (uj (cap:=cap) (HK.out _ o).ids hp FT);have C9:=fun{V:World} (o:Off [] W1 V)=>jh (aef cb S.length p E θ V ((HK.out _ o).cl.mono (Nat.le_trans hB (Nat.le_trans o1.size o.size))) hp);have Ob:=jh (hg.off o1 sj);have fO:=jh o1;have hne1:kb≠gb:=oC hg.lt;have hgl:=hg.lt;have hkl:kb<W1.heap.size:=r1.lt;have aq3:W.heap.size<W1.heap.size:=om;unfold Xm at C9;rw[hlb,hsz] at C9;have HW1:=jh hW1;rw[hkb];have HKB:=jh hkb;have HS:=HC.out W1 (Off.refl _ _);clear h hu ht hg hlb hsz hy o1 r1 hW1 hp FT hkb;refine aj (λV=>V.cell? ⟨kb,0,none⟩=some (.slice (some ⟨g,0,none⟩) S.length cap)∧V.cell? ⟨kb,7,none⟩=some (.pointer (some ⟨cb,0,none⟩))∧V.cell? ⟨ub,0,none⟩=some (.int .u64 u)∧V.cell? ⟨tb,0,none⟩=some (.int .i64 θ)) (by kernel_rfl) ?_;rw[HW1.out];refine tC 0 ?_;refine tC 1 ?_;refine tC 2 ?_;refine tC 3 ?_;refine tC 4 ?_;refine tC 6 ?_
 try simp only[sD]
 have Yc:=jh (Off.refl [] W1);apply tw2 (fun(V:World) (nb:Nat)=>Off [] W1 V∧Row V nb 2 (λi=>(#[Value.int .i64 0,.int .i64 0]:Array Value).getD i undef)∧W1.heap.size≤nb)
 ·intro TL;refine Oh [5,11] ?_;refine AllReadyH.cons rfl (λKx hK=>?_) (AllReadyH.cons rfl (λKx hK=>?_) AllReadyH.nil)
  ·go_simp;refine(U3 Yc.out).out.mono ?_;rintro e wq ⟨rfl,pq,rfl⟩;obtain⟨W1p,YX⟩:=nE (W1.drewN pq);have FE:=jh (show Off [] W1 W1p by rw[←YX];exact Yc.out.drewN pq);rw[YX];clear YX;refine hK.out _ _ (HC.out _ FE.out) (λHS=>?_);clear hK;refine Oh [7,11] ?_;refine AllReadyH.cons rfl (λKx hK=>?_) (AllReadyH.cons rfl (λKx hK=>?_) AllReadyH.nil)
   ·go_simp;refine(C9 FE.out).out.mono ?_;rintro e af5 ⟨rfl,bq⟩;have IZ:=jh (FE.out.trans (Off.of_below (S:=[]) bq) sj);clear bq;refine hK.out _ _ (HC.out _ IZ.out) (λHS=>?_);clear hK;refine tC 8 ?_;refine tC 9 ?_;refine tC 10 ?_
    try simp only[sD]
    refine rC 11 λKx hK=>?_;go_simp;obtain⟨nb,hnb⟩:=nE af5.heap.size;have Ov:=jh (show W1.heap.size≤nb by have:=IZ.out.size;omega);obtain⟨TV,Kg⟩:∃X,af5.alloc (.cells #[.int .i64 0,.int .i64 0] 89)=X:=⟨_,rfl⟩;have KV:=jh (show Off [] W1 TV by rw[←Kg];exact IZ.out.alloc _)
    have zr:Row TV nb 2 (λi=>(#[Value.int .i64 0,.int .i64 0]:Array Value).getD i undef):=by
     rw[←Kg,←hnb];exact Row.lit _ _ _ (Nat.le_refl _) lC
    have HZ:=jh zr;rw[hnb,Kg];clear zr hnb Kg;refine hK.out _ _ (HC.out _ KV.out) (λHS=>?_);clear hK;exact TL TV nb ⟨KV.out,HZ.out,Ov.out⟩
   ·go_simp;obtain⟨nb,hnb⟩:=nE W1p.heap.size;have Ov:=jh (show W1.heap.size≤nb by have:=FE.out.size;omega);obtain⟨af7,Kg⟩:∃X,W1p.alloc (.cells #[.int .i64 0,.int .i64 0] 89)=X:=⟨_,rfl⟩;have I4:=jh (show Off [] W1 af7 by rw[←Kg];exact FE.out.alloc _)
    have zr:Row af7 nb 2 (λi=>(#[Value.int .i64 0,.int .i64 0]:Array Value).getD i undef):=by
     rw[←Kg,←hnb];exact Row.lit _ _ _ (Nat.le_refl _) lC
    have HZ:=jh zr;rw[hnb,Kg];clear zr hnb Kg;refine hK.out _ _ (HC.out _ I4.out) (λHS=>?_);clear hK;refine rC 7 λKx hK=>?_;go_simp;refine(C9 I4.out).out.mono ?_;rintro e af6 ⟨rfl,bq⟩;have KY:=jh (I4.out.trans (Off.of_below (S:=[]) bq) sj);have HZ:=jh (HZ.out.off (Off.of_below (S:=[]) bq) sj);clear bq;refine hK.out _ _ (HC.out _ KY.out) (λHS=>?_);clear hK;refine tC 8 ?_;refine tC 9 ?_;refine tC 10 ?_
    try simp only[sD]
    exact wl (TL af6 nb ⟨KY.out,HZ.out,Ov.out⟩)
  ·go_simp;obtain⟨nb,hnb⟩:=nE W1.heap.size;have Ov:=jh (show W1.heap.size≤nb by have:=Yc.out.size;omega);obtain⟨W1a,Kg⟩:∃X,W1.alloc (.cells #[.int .i64 0,.int .i64 0] 89)=X:=⟨_,rfl⟩;have Un:=jh (show Off [] W1 W1a by rw[←Kg];exact Yc.out.alloc _)
   have zr:Row W1a nb 2 (λi=>(#[Value.int .i64 0,.int .i64 0]:Array Value).getD i undef):=by
    rw[←Kg,←hnb];exact Row.lit _ _ _ (Nat.le_refl _) lC
   have HZ:=jh zr;rw[hnb,Kg];clear zr hnb Kg;refine hK.out _ _ (HC.out _ Un.out) (λHS=>?_);clear hK;refine rC 5 λKx hK=>?_;go_simp;refine(U3 Un.out).out.mono ?_;rintro e wq ⟨rfl,pq,rfl⟩;obtain⟨af9,YX⟩:=nE (W1a.drewN pq);have I5:=jh (show Off [] W1 af9 by rw[←YX];exact Un.out.drewN pq);have HZ:=jh (show Row af9 nb 2 (λi=>(#[Value.int .i64 0,.int .i64 0]:Array Value).getD i undef) by rw[←YX];exact HZ.out);rw[YX];clear YX;refine hK.out _ _ (HC.out _ I5.out) (λHS=>?_);clear hK;refine rC 7 λKx hK=>?_;go_simp;refine(C9 I5.out).out.mono ?_;rintro e af8 ⟨rfl,bq⟩;have KZ:=jh (I5.out.trans (Off.of_below (S:=[]) bq) sj);have HZ:=jh (HZ.out.off (Off.of_below (S:=[]) bq) sj);clear bq;refine hK.out _ _ (HC.out _ KZ.out) (λHS=>?_);clear hK;refine tC 8 ?_;refine tC 9 ?_;refine tC 10 ?_
   try simp only[sD]
   exact wl (TL af8 nb ⟨KZ.out,HZ.out,Ov.out⟩)
 ·intro V nb hC;have HOV:=jh hC.1;have HZ:=jh hC.2.1;have Ov:=jh hC.2.2;have HS:=HC.out _ HOV.out;clear hC;have z0:V.cell? ⟨nb,0,none⟩=some (.int .i64 0):=HZ.out.c 0;have z1:V.cell? ⟨nb,1,none⟩=some (.int .i64 0):=HZ.out.c 1;have y0:V.frozen? ⟨nb,0,none⟩=false:=HZ.out.frozen 0;have y1:V.frozen? ⟨nb,1,none⟩=false:=HZ.out.frozen 1;refine rC 12 λKx hK=>?_;go_simp;obtain⟨X,hX⟩:=nE ((V.setCell ⟨nb,0,none⟩ (.int .i64 lb)).setCell ⟨nb,1,none⟩ (.int .i64 sz))
  have zX:Row X nb 2 (λi=>(#[Value.int .i64 lb,.int .i64 sz]:Array Value).getD i undef):=by
   rw[←hX];refine((HZ.out.set 0 _).set 1 _).congr λi hi=>?_
   match i,hi with |0,_ |1,_=>rfl |k+2,e=>exact absurd e om
  have oX:Off [nb] V X:=by
   rw[←hX];exact((Off.refl [nb] V).setCell (p:=⟨nb,0,none⟩) sj _).setCell (p:=⟨nb,1,none⟩) sj _
  rw[hX];clear z0 z1 y0 y1 hX;have HnB:=Ov.out
  have HCX:X.cell? ⟨kb,0,none⟩=some (.slice (some ⟨g,0,none⟩) S.length cap)∧X.cell? ⟨kb,7,none⟩=some (.pointer (some ⟨cb,0,none⟩))∧X.cell? ⟨ub,0,none⟩=some (.int .u64 u)∧X.cell? ⟨tb,0,none⟩=some (.int .i64 θ):=by
   obtain⟨q1,q2,q3,q4⟩:=HC.out _ HOV.out;have k1:=HOV.out.size;have e:∀j<W1.heap.size,X.heap[j]?=V.heap[j]?:=λj hj=>oX.block j om (by simp;omega);exact⟨(World.cell?_of_block (e kb hkl)).trans q1,(World.cell?_of_block (e kb hkl)).trans q2,(World.cell?_of_block (e ub om)).trans q3,(World.cell?_of_block (e tb om)).trans q4⟩
  refine hK.out _ _ HCX (λ_=>?_);clear hK HS;have HS:=HCX;refine tC 13 ?_
  try simp only[sD]
  refine dD ⟨rfl,?_⟩;clear HS;have HOX:=jh (show Off [] W1 X from(HOV.out.trans oX (by simp;omega)));have HX:=jh zX;clear zX oX HCX HZ;obtain⟨Y,hY⟩:=nE X.drew;have HOY:=jh (show Off [] W1 Y by rw[←hY];exact HOX.out.drew);have HYr:=jh (show Row Y nb 2 (λi=>(#[Value.int .i64 lb,.int .i64 sz]:Array Value).getD i undef) by rw[←hY];exact HX.out);have HYe:=jh hY;have HGY:=jh (Ob.out.off HOY.out sj);have HKY:=(HK.out _ HOY.out).ids;have hi0:Y.cell? ⟨g,lb,none⟩=some (.int .u64 (aR S lb)):=HKY.cell hlt;rw[HLB.out.2.2] at hi0;have HS:Y.cell? ⟨kb,0,none⟩=some (.slice (some ⟨g,0,none⟩) S.length cap)∧Y.cell? ⟨nb,0,none⟩=some (.int .i64 lb)∧Y.cell? ⟨nb,1,none⟩=some (.int .i64 sz)∧Y.cell? ⟨g,lb,none⟩=some (.int .u64 y):=⟨(HC.out _ HOY.out).1,HYr.out.c 0,HYr.out.c 1,hi0⟩;have hbl:(0:Int)≤lb∧(lb:Int)<S.length:=om;have aeT:nb≠gb:=om;clear HKY hi0 hY;go_wp2;refine aj (λV=>V.cell? ⟨kb,0,none⟩=some (.slice (some ⟨g,0,none⟩) S.length cap)∧V.cell? ⟨nb,0,none⟩=some (.int .i64 lb)∧V.cell? ⟨nb,1,none⟩=some (.int .i64 sz)∧V.cell? ⟨g,lb,none⟩=some (.int .u64 y)) (by kernel_rfl) ?_;rw[HYe.out];refine tC 0 ?_;refine tC 1 ?_;refine tC 2 ?_;refine tC 3 ?_;refine tC 4 ?_;refine tC 5 ?_;refine tC 6 ?_;refine tC 7 ?_
  try simp only[sD]
  have c0:Y.cell? ⟨gb,0,none⟩=some x0:=HGY.out.c 0;have c1:Y.cell? ⟨gb,1,none⟩=some x1:=HGY.out.c 1;have f0:Y.frozen? ⟨gb,0,none⟩=false:=HGY.out.frozen 0;have f1:Y.frozen? ⟨gb,1,none⟩=false:=HGY.out.frozen 1;refine rC 8 λKx hK=>?_;go_simp;obtain⟨Z,hZ⟩:=nE ((Y.setCell ⟨gb,0,none⟩ (.int .u64 0)).setCell ⟨gb,1,none⟩ (.int .i64 0))
  have oZ:Off [gb] Y Z:=by
   rw[←hZ];exact((Off.refl [gb] Y).setCell (p:=⟨gb,0,none⟩) sj _).setCell (p:=⟨gb,1,none⟩) sj _
  have rZ:Row Z gb 2 (λi=>(#[Value.int .u64 0,.int .i64 0]:Array Value).getD i undef):=by
   rw[←hZ];refine((HGY.out.set 0 _).set 1 _).congr λi hi=>?_
   match i,hi with |0,_ |1,_=>rfl |k+2,e=>exact absurd e om
  rw[hZ];clear c0 c1 f0 f1 hZ
  have HSZ:∀Q,Off [gb] Y Q→Q.cell? ⟨kb,0,none⟩=some (.slice (some ⟨g,0,none⟩) S.length cap)∧Q.cell? ⟨nb,0,none⟩=some (.int .i64 lb)∧Q.cell? ⟨nb,1,none⟩=some (.int .i64 sz)∧Q.cell? ⟨g,lb,none⟩=some (.int .u64 y):=λQ o=>by
   have k1:=HOY.out.size;have k2:=((HK.out _ HOY.out).ids).row.lt;exact⟨(World.cell?_of_block (o.block kb om (by simpa using hne1))).trans HS.1,(World.cell?_of_block (o.block nb HYr.out.lt (by simpa using aeT))).trans HS.2.1,(World.cell?_of_block (o.block nb HYr.out.lt (by simpa using aeT))).trans HS.2.2.1,(World.cell?_of_block (o.block g k2 (by simpa using hgg))).trans HS.2.2.2⟩
  have HSZ:=jh HSZ;have HoZ:=jh oZ;have HrZ:=jh rZ;clear HS oZ;have HS:=HSZ.out Z HoZ.out;refine hK.out _ _ HS (λ_=>?_);clear hK;refine tC 9 ?_
  try simp only[sD]
  have c0:Z.cell? ⟨gb,0,none⟩=some (.int .u64 0):=rZ.c 0;have f0:Z.frozen? ⟨gb,0,none⟩=false:=rZ.frozen 0;refine rC 10 λKx hK=>?_;go_simp;have o2:=HoZ.out.setCell (p:=⟨gb,0,none⟩) sj (.int .u64 y);have r2:=HrZ.out.set 0 (.int .u64 y);obtain⟨Z2,hZ2⟩:=nE (Z.setCell ⟨gb,0,none⟩ (.int .u64 y));rw[hZ2] at o2 r2⊢;clear c0 f0 HS rZ hZ2;have HS:=HSZ.out Z2 o2;refine hK.out _ _ HS (λ_=>?_);clear hK;refine tC 11 ?_
  try simp only[sD]
  have c1:Z2.cell? ⟨gb,1,none⟩=some (.int .i64 0):=r2.c 1;have f1:Z2.frozen? ⟨gb,1,none⟩=false:=r2.frozen 1;refine rC 12 λKx hK=>?_;go_simp;have o3:=o2.setCell (p:=⟨gb,1,none⟩) sj (.int .i64 sz);have r3:=r2.set 1 (.int .i64 sz);obtain⟨Z3,hZ3⟩:=nE (Z2.setCell ⟨gb,1,none⟩ (.int .i64 sz));rw[hZ3] at o3 r3⊢;clear c1 f1 HS hZ3;have HS:=HSZ.out Z3 o3;refine hK.out _ _ HS (λ_=>?_);clear hK;refine dD ⟨rfl,?_⟩;have HF:=jh (show Off [gb] W Z3 from((fO.out.mono (S':=[gb]) sj).trans HOY.out sj).trans o3 sj);have HFR:=jh (r3.congr (f':=λi=>(#[Value.int .u64 y,.int .i64 sz]:Array Value).getD i undef) lC);clear HS o2 o3 r2 r3;go_wp2;go_end0;exact⟨rfl,HF.out,HFR.out⟩
end
theorem vD {f : FuncId} {fn : Func} (hf : Tryz.prog.funcs[f]? = some fn) (hname : (fn.name == "runtime.NumGoroutine") = false) (hb : fn.body.isSome = true) (args : Array Value) (w : World) : (callFunc f args).run Tryz.prog w = .ok (.enter f args) w := by
 obtain⟨c,hc⟩:=Option.isSome_iff_exists.1 hb
 have h1 : fn.name ≠ "runtime.NumGoroutine" := by simpa using hname
 simp[callFunc,hf,h1,hc]
theorem pU (args:Array Value) (w:World):(callFunc 33 args).run Tryz.prog w=.ok (.enter 33 args) w:=vD Tryz.func33 (by kernel_rfl) (by kernel_rfl) _ _
def y8 (S:List Int) (E:List Ed) (θ:Int) (p:Nat):Array Value:=#[.int .u64 (aR S (gV E θ p)),.int .i64 (bO S.length (gV E θ) p:Nat)]
section
variable {w:World} {G:dW} {c:Cf} {nw ex:Int} {ad:Nat} {s:St} {vb:Nat}
theorem Si {S:List Int} (sp:S.Perm (s.TU.map (aJ s.ids))) {u:Int} (h:s.has u):u∈S:=sp.mem_iff.2 (St.dU.2 h)
theorem Ji (h:zf w G c vb) (hw:tO w G c nw ad ex s) (hV:c.V≤12) (u θ:Int):
  Calls Tryz.prog 12 #[.pointer (some ⟨vb,0,none⟩),.int .u64 u,.int .i64 θ] w λe w'=>tO w' G c nw ad ex s∧Off (vb::G.bl c.E) w w'∧((¬s.has u∧e=.returned (.tuple #[.agg #[.int .u64 0,.int .i64 0],.int .i64 13]))∨
   (s.has u∧∃lo hi S K cap z g b cb fb p,nJ w' G c vb (qc ad ex) s lo hi S K cap z g b cb fb∧p<S.length∧aR S p=u∧e=.returned (.tuple #[.agg (y8 S (jq S s K) θ p),.int .i64 0]))):=by
 have YS:vb∉G.bl c.E:=h.2;have oP:=jh hw.lt;have hvl:vb<w.heap.size:=h.1.lt;have HX:=jh (True.intro);obtain⟨W1,hW1⟩:∃W,((w.alloc (.cells #[.int .u64 u] 25)).alloc (.cells #[.int .i64 θ] 2)).alloc (.cells #[.int .u64 0,.int .i64 0] 49)=W:=⟨_,rfl⟩;obtain⟨ub,hub⟩:=nE w.heap.size
 have o1:Off [] w W1:=by rw[←hW1];exact(((Off.refl _ _).alloc _).alloc _).alloc _
 have rr:Row W1 (ub+2) 2 (λi=>(#[Value.int .u64 0,.int .i64 0]:Array Value).getD i undef):=by
  rw[←hW1,←hub];have:=Row.lit (n:=2) (f:=λi=>(#[Value.int .u64 0,.int .i64 0]:Array Value).getD i undef) ((w.alloc (.cells #[.int .u64 u] 25)).alloc (.cells #[.int .i64 θ] 2)) #[.int .u64 0,.int .i64 0] 49 (Nat.le_refl _) lC;simpa using this
 have ru:Row W1 ub 1 (λi=>(#[Value.int .u64 u]:Array Value).getD i undef):=by
  rw[←hW1,←hub];exact((Row.lit (n:=1) w #[.int .u64 u] 25 (Nat.le_refl _) lC).alloc _).alloc _
 have rt:Row W1 (ub+1) 1 (λi=>(#[Value.int .i64 θ]:Array Value).getD i undef):=by
  rw[←hW1,←hub];have:=Row.lit (n:=1) (f:=λi=>(#[Value.int .i64 θ]:Array Value).getD i undef) (w.alloc (.cells #[.int .u64 u] 25)) #[.int .i64 θ] 2 (Nat.le_refl _) lC;exact(by simpa using this:Row _ _ _ _).alloc _
 have h1:=h.off o1 sj;have FC:=jh (lT h1.1);have Ut:=jh (Dn h1.1 (hw.off o1) u);have H1:=jh h1;have fO:=jh o1;have HU:=jh ru;have HT:=jh rt;have HR:=jh rr;have HW1:=jh hW1;have IX:=jh hub;have cu:W1.cell? ⟨ub,0,none⟩=some (.int .u64 u):=ru.c 0;clear hw o1 ru rt rr h1 hW1 h;go_in;go_wp2_with fail;rw[HW1.out]
 try rw[hub]
 clear hub;apply mO FC;rintro e wq ⟨rfl,rfl⟩;clear FC;go_wp2_with fail;apply mO Ut;rintro e w2 ⟨r,rfl,hr,hw2,b2⟩;have hnu:ub∉G.bl c.E∧ub+1∉G.bl c.E∧ub+2∉G.bl c.E:=⟨λe=>oD (oP.out _ e) IX.out,λe=>oD (oP.out _ e) IX.out,λe=>oD (oP.out _ e) IX.out⟩;have fu:=jh ((fO.out.mono (S':=G.bl c.E) sj).trans b2.off (λj hj=>.inl hj));have Uh:=jh (HU.out.off b2.off hnu.1);have HT2:=jh (HT.out.off b2.off hnu.2.1);have HR2:=jh (HR.out.off b2.off hnu.2.2);have HN:=jh hnu;have H2:=jh (H1.out.off b2.off (λj hj e=>YS (e▸hj)));have HW2:=jh hw2;have hs2:=b2.off.size;have RG:vb<ub:=oC IX.out;clear hw2 b2 hnu Ut cu
 cases r with
 |false=>
  have X8:=jh (show ¬s.has u from λc=>by have:=hr.2 c;cases this);have z0:w2.cell? ⟨ub+2,0,none⟩=some (.int .u64 0):=HR2.out.c 0;have z1:w2.cell? ⟨ub+2,1,none⟩=some (.int .i64 0):=HR2.out.c 1;have y0:w2.frozen? ⟨ub+2,0,none⟩=false:=HR2.out.frozen 0;have y1:w2.frozen? ⟨ub+2,1,none⟩=false:=HR2.out.frozen 1;clear hr;go_wp2_with fail;obtain⟨W3,hW3⟩:=nE ((w2.setCell ⟨ub+2,0,none⟩ (.int .u64 0)).setCell ⟨ub+2,1,none⟩ (.int .i64 0))
  have r3:Row W3 (ub+2) 2 (λi=>(#[Value.int .u64 0,.int .i64 0]:Array Value).getD i undef):=by
   rw[←hW3];refine((HR2.out.set 0 _).set 1 _).congr λi hi=>?_
   match i,hi with |0,_ |1,_=>rfl |k+2,e=>exact absurd e om
  have o3:Off [ub+2] w2 W3:=by
   rw[←hW3];exact((Off.refl [ub+2] w2).setCell (p:=⟨ub+2,0,none⟩) sj _).setCell (p:=⟨ub+2,1,none⟩) sj _
  rw[hW3];clear z0 z1 y0 y1 hW3;have s0:W3.cell? ⟨ub+2,0,none⟩=some (.int .u64 0):=r3.c 0;have s1:W3.cell? ⟨ub+2,1,none⟩=some (.int .i64 0):=r3.c 1;refine bodyPost_ret (v:=.tuple #[.agg #[.int .u64 0,.int .i64 0],.int .i64 13]) (by simp[results,Tryz.results12,go_sem,s0,s1]) rfl ?_;refine⟨HW2.out.keep λj hj=>o3.block j (HW2.out.lt j hj) (by simp;intro e;exact HN.out.2.2 (e▸hj)),(fu.out.mono (λj hj=>.inl (List.mem_cons_of_mem _ hj))).trans o3 (λj hj=>.inr ?_),.inl ⟨X8.out,rfl⟩⟩;have:=IX.out;simp at hj;omega
 |true=>
  have X8:=jh (hr.1 rfl);clear hr;have cf:=pU;obtain⟨gb,hgb⟩:=nE w2.heap.size;obtain⟨W3,hW3⟩:∃W,w2.alloc (.cells #[.int .u64 0,.int .i64 0] 49)=W:=⟨_,rfl⟩
  have o3:Off [] w2 W3:=by rw[←hW3];exact(Off.refl _ _).alloc _
  have rg:Row W3 gb 2 (λi=>(#[Value.int .u64 0,.int .i64 0]:Array Value).getD i undef):=by
   rw[←hW3,←hgb];exact Row.lit _ _ _ (Nat.le_refl _) lC
  have h3s:W3.heap.size=gb+1:=by rw[←hW3,←hgb];simp
  have hug:ub+2<gb:=oC HR2.out.lt;have bW:=jh o3;have HG3:=jh rg;have HW3:=jh hW3;have FX:=jh hgb;have hw3:=HW2.out.off o3;have hlt3:=HW2.out.lt
  have Hw:∀W,Off [vb,gb] W3 W→W.cell? ⟨ub,0,none⟩=some (.int .u64 u)∧W.cell? ⟨ub+1,0,none⟩=some (.int .i64 θ)∧Row W (ub+2) 2 (λi=>(#[Value.int .u64 0,.int .i64 0]:Array Value).getD i undef):=λW o=>
   ⟨((Uh.out.off o3 sj).off o (by simp;omega)).c 0,((HT2.out.off o3 sj).off o (by simp;omega)).c 0,(HR2.out.off o3 sj).off o (by simp;omega)⟩
  have HCu:=jh Hw;have Cz:=jh hw3;have H3:=jh (H2.out.off o3 sj);clear o3 rg hW3 hgb hw3 Hw;go_wp2_with fail;rw[HW3.out]
  try rw[FX.out]
  clear cf;obtain⟨f,hk,ws⟩:=Cz.out;have hub:=IX.out;have hhi:=HX.out;refine(OA H3.out hk hV pU (P:=λw'=>∃lo hi S K cap z g b cb fb p,W3.heap.size≤lo∧nJ w' G c vb (qc ad ex) s lo hi S K cap z g b cb fb∧p<S.length∧aR S p=u∧Row w' gb 2 (λi=>(#[Value.int .u64 (aR S (gV (jq S s K) θ p)),.int .i64 (bO S.length (gV (jq S s K) θ) p:Nat)]:Array Value).getD i undef)∧Off [vb,gb] W3 w') (λW lo hi S K cap z g b cb fb oW hlo hK=>?_)).mono ?_
  ·obtain⟨u1,u2,_⟩:=HCu.out W (oW.mono sj);have hp:=nW (Si hK.sp X8.out);have hsW:=oW.size;refine(Kw (gb:=gb) hK.self hK.uZ u1 u2 om om (HG3.out.off oW (by simp<;>omega)) hp.1 hp.2 (oD hK.gge hK.self.FU)).mono ?_;rintro e w' ⟨rfl,o5,r5⟩;exact⟨rfl,lo,hi,S,K,cap,z,g,b,cb,fb,_,hlo,hK.off o5 (by simp;have:=hK.uZ;omega),hp.1,hp.2,r5,(oW.mono (S':=[vb,gb]) sj).trans o5 sj⟩
  ·rintro e w4 ⟨rfl,hP⟩;obtain⟨lo,hi,S,K,cap,z,g,b,cb,fb,p,hlo,hvk,hp,FT,hrg,hoo⟩:=hP;have HOo:=jh hoo;have HRg:=jh hrg;have HVK:=jh hvk;have HPp:=jh (And.intro hp FT);have FP:=(HCu.out w4 hoo).2.2;obtain⟨gu,hgu⟩:=nE (aR S (gV (jq S s K) θ p));obtain⟨gs,hgs⟩:=nE (bO S.length (gV (jq S s K) θ) p);have HGU:=jh (And.intro hgu hgs);rw[hgu,hgs] at hrg;have q0:w4.cell? ⟨gb,0,none⟩=some (.int .u64 gu):=hrg.c 0;have q1:w4.cell? ⟨gb,1,none⟩=some (.int .i64 gs):=hrg.c 1;have z0:w4.cell? ⟨ub+2,0,none⟩=some (.int .u64 0):=FP.c 0;have z1:w4.cell? ⟨ub+2,1,none⟩=some (.int .i64 0):=FP.c 1;have y0:w4.frozen? ⟨ub+2,0,none⟩=false:=FP.frozen 0;have y1:w4.frozen? ⟨ub+2,1,none⟩=false:=FP.frozen 1;have HR4:=jh FP;clear FP hrg hvk hoo hp FT hgu hgs hk ws;go_wp2_with fail;obtain⟨W5,kW⟩:=nE ((w4.setCell ⟨ub+2,0,none⟩ (.int .u64 gu)).setCell ⟨ub+2,1,none⟩ (.int .i64 gs))
   have r5:Row W5 (ub+2) 2 (λi=>(#[Value.int .u64 gu,.int .i64 gs]:Array Value).getD i undef):=by
    rw[←kW];refine((HR4.out.set 0 _).set 1 _).congr λi hi=>?_
    match i,hi with |0,_ |1,_=>rfl |k+2,e=>exact absurd e om
   have o5:Off [ub+2] w4 W5:=by
    rw[←kW];exact((Off.refl [ub+2] w4).setCell (p:=⟨ub+2,0,none⟩) sj _).setCell (p:=⟨ub+2,1,none⟩) sj _
   rw[kW];clear q0 q1 z0 z1 y0 y1 kW;have s0:W5.cell? ⟨ub+2,0,none⟩=some (.int .u64 gu):=r5.c 0;have s1:W5.cell? ⟨ub+2,1,none⟩=some (.int .i64 gs):=r5.c 1;refine bodyPost_ret (v:=.tuple #[.agg #[.int .u64 gu,.int .i64 gs],.int .i64 0]) (by simp[results,Tryz.results12,go_sem,s0,s1]) rfl ?_;have hs3:=bW.out.size;have hs4:=HOo.out.size;have hvx:vb≠ub+2:=om;refine⟨Cz.out.keep λj hj=>(o5.block j (Nat.lt_of_lt_of_le (Cz.out.lt j hj) hs4) (by simp;exact λe=>HN.out.2.2 (e▸hj))).trans (HOo.out.block j (Cz.out.lt j hj) (by have:=hlt3 j hj;have:=FX.out;simp;exact⟨λe=>YS (e▸hj),om⟩)),?_,.inr ⟨X8.out,lo,hi,S,K,cap,z,g,b,cb,fb,p,HVK.out.off o5 (by simp;omega),HPp.out.1,HPp.out.2,by unfold y8;rw[HGU.out.1,HGU.out.2]⟩⟩;refine(((fu.out.mono (S':=vb::G.bl c.E) (λj hj=>.inl (List.mem_cons_of_mem _ hj))).trans bW.out sj).trans HOo.out (λj hj=>?_)).trans o5 (λj hj=>?_)
   ·simp at hj
    rcases hj with rfl |rfl
    ·exact .inl (List.mem_cons_self ..)
    ·have:=fu.out.size;have:=FX.out;exact .inr om
   ·have:=IX.out;simp at hj;exact .inr om
theorem Va {lo hi:Nat} {S:List Int} {K:List Nat} {cap z g:Nat} {b:fB} {cb fb:Nat} (h:nJ w G c vb (qc ad ex) s lo hi S K cap z g b cb fb) (hw:tO w G c nw ad ex s) (hV:c.V≤12) (u θ:Int):
  Calls Tryz.prog 12 #[.pointer (some ⟨vb,0,none⟩),.int .u64 u,.int .i64 θ] w λe w'=>tO w' G c nw ad ex s∧Off (vb::G.bl c.E) w w'∧((¬s.has u∧e=.returned (.tuple #[.agg #[.int .u64 0,.int .i64 0],.int .i64 13]))∨
   (s.has u∧∃p,nJ w' G c vb (qc ad ex) s lo hi S K cap z g b cb fb∧p<S.length∧aR S p=u∧e=.returned (.tuple #[.agg (y8 S (jq S s K) θ p),.int .i64 0]))):=by
 have YS:vb∉G.bl c.E:=h.adM;have oP:=jh hw.lt;have hvl:vb<w.heap.size:=h.row.lt;have HX:=jh (h.uZ);obtain⟨W1,hW1⟩:∃W,((w.alloc (.cells #[.int .u64 u] 25)).alloc (.cells #[.int .i64 θ] 2)).alloc (.cells #[.int .u64 0,.int .i64 0] 49)=W:=⟨_,rfl⟩;obtain⟨ub,hub⟩:=nE w.heap.size
 have o1:Off [] w W1:=by rw[←hW1];exact(((Off.refl _ _).alloc _).alloc _).alloc _
 have rr:Row W1 (ub+2) 2 (λi=>(#[Value.int .u64 0,.int .i64 0]:Array Value).getD i undef):=by
  rw[←hW1,←hub];have:=Row.lit (n:=2) (f:=λi=>(#[Value.int .u64 0,.int .i64 0]:Array Value).getD i undef) ((w.alloc (.cells #[.int .u64 u] 25)).alloc (.cells #[.int .i64 θ] 2)) #[.int .u64 0,.int .i64 0] 49 (Nat.le_refl _) lC;simpa using this
 have ru:Row W1 ub 1 (λi=>(#[Value.int .u64 u]:Array Value).getD i undef):=by
  rw[←hW1,←hub];exact((Row.lit (n:=1) w #[.int .u64 u] 25 (Nat.le_refl _) lC).alloc _).alloc _
 have rt:Row W1 (ub+1) 1 (λi=>(#[Value.int .i64 θ]:Array Value).getD i undef):=by
  rw[←hW1,←hub];have:=Row.lit (n:=1) (f:=λi=>(#[Value.int .i64 θ]:Array Value).getD i undef) (w.alloc (.cells #[.int .u64 u] 25)) #[.int .i64 θ] 2 (Nat.le_refl _) lC;exact(by simpa using this:Row _ _ _ _).alloc _
 have h1:=h.off o1 sj;have FC:=jh (lT h1.row);have Ut:=jh (Dn h1.row (hw.off o1) u);have H1:=jh h1;have fO:=jh o1;have HU:=jh ru;have HT:=jh rt;have HR:=jh rr;have HW1:=jh hW1;have IX:=jh hub;have cu:W1.cell? ⟨ub,0,none⟩=some (.int .u64 u):=ru.c 0;clear hw o1 ru rt rr h1 hW1 h;go_in;go_wp2_with fail;rw[HW1.out]
 try rw[hub]
 clear hub;apply mO FC;rintro e wq ⟨rfl,rfl⟩;clear FC;go_wp2_with fail;apply mO Ut;rintro e w2 ⟨r,rfl,hr,hw2,b2⟩;have hnu:ub∉G.bl c.E∧ub+1∉G.bl c.E∧ub+2∉G.bl c.E:=⟨λe=>oD (oP.out _ e) IX.out,λe=>oD (oP.out _ e) IX.out,λe=>oD (oP.out _ e) IX.out⟩;have fu:=jh ((fO.out.mono (S':=G.bl c.E) sj).trans b2.off (λj hj=>.inl hj));have Uh:=jh (HU.out.off b2.off hnu.1);have HT2:=jh (HT.out.off b2.off hnu.2.1);have HR2:=jh (HR.out.off b2.off hnu.2.2);have HN:=jh hnu;have H2:=jh (H1.out.off b2.off (λj hj=>⟨λe=>YS (e▸hj),.inl (H1.out.FU j hj)⟩));have HW2:=jh hw2;have hs2:=b2.off.size;have RG:vb<ub:=oC IX.out;clear hw2 b2 hnu Ut cu
 cases r with
 |false=>
  have X8:=jh (show ¬s.has u from λc=>by have:=hr.2 c;cases this);have z0:w2.cell? ⟨ub+2,0,none⟩=some (.int .u64 0):=HR2.out.c 0;have z1:w2.cell? ⟨ub+2,1,none⟩=some (.int .i64 0):=HR2.out.c 1;have y0:w2.frozen? ⟨ub+2,0,none⟩=false:=HR2.out.frozen 0;have y1:w2.frozen? ⟨ub+2,1,none⟩=false:=HR2.out.frozen 1;clear hr;go_wp2_with fail;obtain⟨W3,hW3⟩:=nE ((w2.setCell ⟨ub+2,0,none⟩ (.int .u64 0)).setCell ⟨ub+2,1,none⟩ (.int .i64 0))
  have r3:Row W3 (ub+2) 2 (λi=>(#[Value.int .u64 0,.int .i64 0]:Array Value).getD i undef):=by
   rw[←hW3];refine((HR2.out.set 0 _).set 1 _).congr λi hi=>?_
   match i,hi with |0,_ |1,_=>rfl |k+2,e=>exact absurd e om
  have o3:Off [ub+2] w2 W3:=by
   rw[←hW3];exact((Off.refl [ub+2] w2).setCell (p:=⟨ub+2,0,none⟩) sj _).setCell (p:=⟨ub+2,1,none⟩) sj _
  rw[hW3];clear z0 z1 y0 y1 hW3;have s0:W3.cell? ⟨ub+2,0,none⟩=some (.int .u64 0):=r3.c 0;have s1:W3.cell? ⟨ub+2,1,none⟩=some (.int .i64 0):=r3.c 1;refine bodyPost_ret (v:=.tuple #[.agg #[.int .u64 0,.int .i64 0],.int .i64 13]) (by simp[results,Tryz.results12,go_sem,s0,s1]) rfl ?_;refine⟨HW2.out.keep λj hj=>o3.block j (HW2.out.lt j hj) (by simp;intro e;exact HN.out.2.2 (e▸hj)),(fu.out.mono (λj hj=>.inl (List.mem_cons_of_mem _ hj))).trans o3 (λj hj=>.inr ?_),.inl ⟨X8.out,rfl⟩⟩;have:=IX.out;simp at hj;omega
 |true=>
  have X8:=jh (hr.1 rfl);clear hr;have cf:=pU;obtain⟨gb,hgb⟩:=nE w2.heap.size;obtain⟨W3,hW3⟩:∃W,w2.alloc (.cells #[.int .u64 0,.int .i64 0] 49)=W:=⟨_,rfl⟩
  have o3:Off [] w2 W3:=by rw[←hW3];exact(Off.refl _ _).alloc _
  have rg:Row W3 gb 2 (λi=>(#[Value.int .u64 0,.int .i64 0]:Array Value).getD i undef):=by
   rw[←hW3,←hgb];exact Row.lit _ _ _ (Nat.le_refl _) lC
  have h3s:W3.heap.size=gb+1:=by rw[←hW3,←hgb];simp
  have hug:ub+2<gb:=oC HR2.out.lt;have bW:=jh o3;have HG3:=jh rg;have HW3:=jh hW3;have FX:=jh hgb;have hw3:=HW2.out.off o3;have hlt3:=HW2.out.lt
  have Hw:∀W,Off [vb,gb] W3 W→W.cell? ⟨ub,0,none⟩=some (.int .u64 u)∧W.cell? ⟨ub+1,0,none⟩=some (.int .i64 θ)∧Row W (ub+2) 2 (λi=>(#[Value.int .u64 0,.int .i64 0]:Array Value).getD i undef):=λW o=>
   ⟨((Uh.out.off o3 sj).off o (by simp;omega)).c 0,((HT2.out.off o3 sj).off o (by simp;omega)).c 0,(HR2.out.off o3 sj).off o (by simp;omega)⟩
  have HCu:=jh Hw;have Cz:=jh hw3;have H3:=jh (H2.out.off o3 sj);clear o3 rg hW3 hgb hw3 Hw;go_wp2_with fail;rw[HW3.out]
  try rw[FX.out]
  clear cf;obtain⟨f,hk,ws⟩:=Cz.out;have hub:=IX.out;have hhi:=HX.out;refine(Dj H3.out hk hV pU (P:=λw'=>∃p,nJ w' G c vb (qc ad ex) s lo hi S K cap z g b cb fb∧p<S.length∧aR S p=u∧Row w' gb 2 (λi=>(#[Value.int .u64 (aR S (gV (jq S s K) θ p)),.int .i64 (bO S.length (gV (jq S s K) θ) p:Nat)]:Array Value).getD i undef)∧Off [vb,gb] W3 w') (λW oW hK=>?_)).mono ?_
  ·obtain⟨u1,u2,_⟩:=HCu.out W (oW.mono sj);have hp:=nW (Si hK.sp X8.out);have hsW:=oW.size;refine(Kw (gb:=gb) hK.self hK.uZ u1 u2 om om (HG3.out.off oW (by simp<;>omega)) hp.1 hp.2 (oD hK.gge hK.self.FU)).mono ?_;rintro e w' ⟨rfl,o5,r5⟩;exact⟨rfl,_,hK.off o5 (by simp;omega),hp.1,hp.2,r5,(oW.mono (S':=[vb,gb]) sj).trans o5 sj⟩
  ·rintro e w4 ⟨rfl,hP⟩;obtain⟨p,hvk,hp,FT,hrg,hoo⟩:=hP;have HOo:=jh hoo;have HRg:=jh hrg;have HVK:=jh hvk;have HPp:=jh (And.intro hp FT);have FP:=(HCu.out w4 hoo).2.2;obtain⟨gu,hgu⟩:=nE (aR S (gV (jq S s K) θ p));obtain⟨gs,hgs⟩:=nE (bO S.length (gV (jq S s K) θ) p);have HGU:=jh (And.intro hgu hgs);rw[hgu,hgs] at hrg;have q0:w4.cell? ⟨gb,0,none⟩=some (.int .u64 gu):=hrg.c 0;have q1:w4.cell? ⟨gb,1,none⟩=some (.int .i64 gs):=hrg.c 1;have z0:w4.cell? ⟨ub+2,0,none⟩=some (.int .u64 0):=FP.c 0;have z1:w4.cell? ⟨ub+2,1,none⟩=some (.int .i64 0):=FP.c 1;have y0:w4.frozen? ⟨ub+2,0,none⟩=false:=FP.frozen 0;have y1:w4.frozen? ⟨ub+2,1,none⟩=false:=FP.frozen 1;have HR4:=jh FP;clear FP hrg hvk hoo hp FT hgu hgs hk ws;go_wp2_with fail;obtain⟨W5,kW⟩:=nE ((w4.setCell ⟨ub+2,0,none⟩ (.int .u64 gu)).setCell ⟨ub+2,1,none⟩ (.int .i64 gs))
   have r5:Row W5 (ub+2) 2 (λi=>(#[Value.int .u64 gu,.int .i64 gs]:Array Value).getD i undef):=by
    rw[←kW];refine((HR4.out.set 0 _).set 1 _).congr λi hi=>?_
    match i,hi with |0,_ |1,_=>rfl |k+2,e=>exact absurd e om
   have o5:Off [ub+2] w4 W5:=by
    rw[←kW];exact((Off.refl [ub+2] w4).setCell (p:=⟨ub+2,0,none⟩) sj _).setCell (p:=⟨ub+2,1,none⟩) sj _
   rw[kW];clear q0 q1 z0 z1 y0 y1 kW;have s0:W5.cell? ⟨ub+2,0,none⟩=some (.int .u64 gu):=r5.c 0;have s1:W5.cell? ⟨ub+2,1,none⟩=some (.int .i64 gs):=r5.c 1;refine bodyPost_ret (v:=.tuple #[.agg #[.int .u64 gu,.int .i64 gs],.int .i64 0]) (by simp[results,Tryz.results12,go_sem,s0,s1]) rfl ?_;have hs3:=bW.out.size;have hs4:=HOo.out.size;have hvx:vb≠ub+2:=om;refine⟨Cz.out.keep λj hj=>(o5.block j (Nat.lt_of_lt_of_le (Cz.out.lt j hj) hs4) (by simp;exact λe=>HN.out.2.2 (e▸hj))).trans (HOo.out.block j (Cz.out.lt j hj) (by have:=hlt3 j hj;have:=FX.out;simp;exact⟨λe=>YS (e▸hj),om⟩)),?_,.inr ⟨X8.out,p,HVK.out.off o5 (by simp;omega),HPp.out.1,HPp.out.2,by unfold y8;rw[HGU.out.1,HGU.out.2]⟩⟩;refine(((fu.out.mono (S':=vb::G.bl c.E) (λj hj=>.inl (List.mem_cons_of_mem _ hj))).trans bW.out sj).trans HOo.out (λj hj=>?_)).trans o5 (λj hj=>?_)
   ·simp at hj
    rcases hj with rfl |rfl
    ·exact .inl (List.mem_cons_self ..)
    ·have:=fu.out.size;have:=FX.out;exact .inr om
   ·have:=IX.out;simp at hj;exact .inr om
end
theorem abE {s:St} {S:List Int} {K:List Nat} {p k:Nat} (Qm:yK S (K.map s.rc) (jq S s K)) (kp:K.Perm s.U) (hU:s.U=[k]) (hk:s.rc k=⟨1,2,0,5⟩) (hp:p<S.length) (FT:aR S p=2):
  y8 S (jq S s K) 5 p=#[.int .u64 1,.int .i64 2]:=by
 have hK:K=[k]:=by
  rw[hU] at kp;exact List.perm_singleton.1 kp
 obtain⟨h1,h2,_⟩:=Qm.part 5 hp;rw[FT] at h1 h2;rw[hK] at h1 h2⊢;simp only[List.map_cons,List.map_nil,hk] at h1 h2
 have e:fP (bL [⟨1,2,0,5⟩] 5) 2=[2,1]:=by decide
 rw[e] at h1 h2;unfold y8;rw[←h1,←h2]
 rfl
theorem XH:gQ 4 4 st0 1 2=0:=by
 have h:∀x,¬st0.has x:=λx hx=>by obtain⟨i,hi,_⟩:=hx;exact absurd hi (by simp[st0])
 unfold gQ;rw[if_neg om,St.iF (h 1),St.iF (h 2)]
 rfl
theorem Xg {E k:Nat} {s:St} (ok:jD E s) (hU:s.U=[k]) (hk:s.rc k=⟨1,2,0,5⟩):s.has 2:=(ok.CS 2).2 ⟨k,by rw[hU];simp,.inr (by rw[hk])⟩
theorem Dh (w:World):Calls Tryz.prog 6 #[] w λe w'=>e=.returned (.bool true)∧Off [] w w':=by
 have HN:=jh (Di w 10 4 4 0 (by unfold dM;omega));go_in;go_wp2_with fail;apply mO HN;clear HN;rintro e w1 (⟨rfl,_,hb⟩ |⟨c,G,rfl,hw,b1,hcw,hcE,YV⟩)
 ·exact absurd hb (by decide)
 have Xh:c.V≤12:=om;have hE4:c.E=4:=om;have hV4:c.V=4:=om;have HA:=jh (Dl hw 1 2 5 0 (by decide) (by decide) (by unfold dM;omega) (by unfold dM;omega) (Nat.zero_le _));have HB1:=jh b1;have HC:=jh (And.intro hcw (And.intro hE4 (And.intro hV4 Xh)));clear hw b1 hcw hcE YV hE4 hV4 Xh;go_wp2_with fail;apply mO HA;clear HA;rintro e w2 ⟨er,rfl,G',nw',ad',Kk,s',hw',had,hGb,b2,hlast⟩;obtain⟨rfl,k,hU,hk⟩:=hlast (by decide) (by rw[HC.out.1];decide) (by rw[HC.out.2.1,HC.out.2.2.1];exact XH) rfl;rw[←hGb];have HW2:=jh hw';have HB2:=jh b2;have HUk:=jh (And.intro hU hk);obtain⟨f,hk2,ws⟩:=hw';have HVn:=jh (Dm hk2 ws.cf);have HWs:=jh ws;clear b2 hU hk hlast hk2 ws hGb;go_wp2_with fail;apply mO HVn;clear HVn;rintro e w3 ⟨vb,rfl,o3,hvb,hvf⟩;have K7:=jh (Ji hvf (HW2.out.off o3) HC.out.2.2.2 2 5);have bW:=jh o3;have HVB:=jh hvb;clear o3 hvb hvf;go_wp2_with fail;apply mO K7;clear K7;rintro e w4 ⟨hw4,o4,⟨hno,_⟩ |⟨_,lo,hi,S,K,cap,z,g,b,cb,fb,p,hvk,hp,FT,rfl⟩⟩
 ·exact absurd (Xg HWs.out.wn.st HUk.out.1 HUk.out.2) hno
 rw[abE hvk.Qm hvk.kp HUk.out.1 HUk.out.2 hp FT]
 have HF:=jh (show Off [] w w4 by
  have hn1:∀j∈G.bl c.E,w.heap.size≤j:=λj hj=>(HB1.out.fU j hj).elim (λe=>by simp at e) id;have hn2:∀j∈G'.bl c.E,w.heap.size≤j:=λj hj=>(HB2.out.fU j hj).elim (hn1 j) λe=>oC HB1.out.off.size;refine(((HB1.out.off.trans HB2.out.off λj hj=>.inr (hn1 j hj)).trans bW.out sj).trans o4 λj hj=>?_)
  rcases List.mem_cons.1 hj with rfl |hj
  ·exact .inr (oF HVB.out HB1.out.off.size HB2.out.off.size)
  ·exact .inr (hn2 j hj))
 clear hw4 o4 hvk hp FT;go_wp2;go_ret;exact⟨rfl,HF.out.alloc _⟩
theorem Tryz.aao:(Tryz.prog.info? 49).map (λi=>(i.zero,i.size,i.bytes))=some (some (.agg #[.int .u64 0,.int .i64 0]),2,16):=by kernel_rfl
theorem abF:ET 56 49 2 16:=ET.of Tryz.underlying56 Tryz.aao rfl (by decide)
def Jh (S:List Int) (f:Nat→Nat) (L:List Nat) (i j:Nat):Value:=if j=0 then .int .u64 (aR S (L.getD i 0)) else .int .i64 (bO S.length f (L.getD i 0):Nat)
theorem Rd.far {t:TypeId} {size n B:Nat} {w w':World} {v:Value} {f:Nat→Nat→Value} {A:Nat→Addr} (h:Rd t size w B v n f A) (o:∀i<n,w'.heap[(A i).block]?=w.heap[(A i).block]?):Rd t size w' B v n f A:=
 ⟨h.ix,h.lt,λi hi j hj=>(World.cell?_of_block (by rw[add_block];exact o i hi)).trans (h.cell i hi j hj)⟩
theorem JI {t e:TypeId} {size bytes:Nat} {w:World} {base n:Nat} {v:Value} {f:Nat→Nat→Value} (E:ET t e size bytes) (h:w.ownsRow base e size v n (flat f n size)):
  ∃a cap A,v=.slice a n cap∧Rd t size w w.heap.size (.slice a n cap) n f A∧∀i<n,base≤(A i).block:=by
 have h0:=h
 rcases h.2 with⟨e1,e2⟩ |⟨g,cap,cur,rfl,hb,hg,_⟩
 ·subst e1 e2;exact⟨none,0,λ_=>⟨0,0,none⟩,rfl,Rd.nil _,λi hi=>absurd hi (Nat.not_lt_zero _)⟩
 ·refine⟨_,_,λi=>(⟨g,0,none⟩:Addr).add (i*size),rfl,Rd.addr E (λ_=>aF h0 rfl) λi hi j hj=>?_,λi hi=>by rw[add_block];exact hb⟩;rw[ku,Nat.zero_add];exact(aC h0 (gK hi hj)).1
section
variable {w w':World} {B:Nat} {S:List Int} {E:List Ed} {g cb fb:Nat}
theorem XB {W:World} (h:yD W B S E g cb fb) (hB:B≤W.heap.size) (Sb:S.length≤4096) {cap z:Nat} {b:fB} {θ:Int} {tb lc:Nat} (ht:W.cell? ⟨tb,0,none⟩=some (.int .i64 θ)) (htl:tb<W.heap.size) (hl:Row W lc 1 (λ_=>.slice none 0 0)) (hgl:g≠lc) (htc:tb≠lc):
  Calls Tryz.prog 36 #[.agg (sG S.length cap z g b cb fb),.pointer (some ⟨tb,0,none⟩),.pointer (some ⟨lc,0,none⟩)] W λe w'=>e=.returned (.tuple #[])∧Off [lc] W w'∧∃v,Row w' lc 1 (λ_=>v)∧w'.ownsRow W.heap.size 49 2 v (nL (gV E θ) S.length).length (flat (Jh S (gV E θ) (nL (gV E θ) S.length)) (nL (gV E θ) S.length).length 2):=by
 obtain⟨n,hn⟩:=nE S.length;obtain⟨fL,hfL⟩:=nE (gV E θ)
 have zZ:dR fL:=by rw[←hfL];exact pI E _
 have afg:∀x<n,fL x<n:=λx hx=>Nat.lt_of_le_of_lt (zZ.le x) hx;obtain⟨L,hL⟩:=nE (nL fL n)
 have hLn:∀x∈L,x<n:=λx hx=>by
  rw[←hL] at hx;exact List.mem_range.1 (List.mem_filter.1 hx).1
 have hLl:L.length≤n:=by rw[←hL,Wq];exact Kt n fL
 obtain⟨m,hm⟩:=nE L.length;rw[hn,hfL,hL,hm];unfold sG;rw[hn] at Sb;go_in;obtain⟨kb,hkb⟩:=nE W.heap.size;obtain⟨W1,hW1⟩:∃W1,W.alloc (.cells #[.slice (some ⟨g,0,none⟩) n cap,.int .i64 n,.slice (some ⟨b.l,0,none⟩) z z,.slice (some ⟨b.r,0,none⟩) z z,.slice (some ⟨b.p,0,none⟩) z z,.slice (some ⟨b.h,0,none⟩) z z,.slice (some ⟨b.s,0,none⟩) z z,.pointer (some ⟨cb,0,none⟩),.pointer (some ⟨fb,0,none⟩)] 71)=W1:=⟨_,rfl⟩
 have o1:Off [] W W1:=by rw[←hW1];exact(Off.refl _ _).alloc _
 have r1:Row W1 kb 9 (λi=>(sG n cap z g b cb fb).getD i undef):=by
  rw[←hW1,←hkb];exact Row.lit W _ _ (Nat.le_refl _) lC
 have hk1:=h.off o1 hB sj;have hB1:B≤W1.heap.size:=Nat.le_trans hB o1.size
 have HA:=jh (XO (.pointer (some ⟨cb,0,none⟩)) n fL θ W1 Sb afg zZ λw1 hb=>by
  have:=Fj cb n E θ w1 (by have:=((hk1.cl.mono hB1).below hb).mono hb.size;rwa [hn] at this);rw[hfL] at this
  exact this)
 unfold Uw at HA;rw[hL,hm] at HA
 have k7:(W.alloc (.cells #[.slice (some ⟨g,0,none⟩) n cap,.int .i64 n,.slice (some ⟨b.l,0,none⟩) z z,.slice (some ⟨b.r,0,none⟩) z z,.slice (some ⟨b.p,0,none⟩) z z,.slice (some ⟨b.h,0,none⟩) z z,.slice (some ⟨b.s,0,none⟩) z z,.pointer (some ⟨cb,0,none⟩),.pointer (some ⟨fb,0,none⟩)] 71)).cell? ⟨kb,7,none⟩=some (.pointer (some ⟨cb,0,none⟩)):=by rw[hW1];exact r1.c 7
 have kt:(W.alloc (.cells #[.slice (some ⟨g,0,none⟩) n cap,.int .i64 n,.slice (some ⟨b.l,0,none⟩) z z,.slice (some ⟨b.r,0,none⟩) z z,.slice (some ⟨b.p,0,none⟩) z z,.slice (some ⟨b.h,0,none⟩) z z,.slice (some ⟨b.s,0,none⟩) z z,.pointer (some ⟨cb,0,none⟩),.pointer (some ⟨fb,0,none⟩)] 71)).cell? ⟨tb,0,none⟩=some (.int .i64 θ):=by rw[hW1];exact(World.cell?_of_block (o1.block tb htl sj)).trans ht
 have hgi:=hk1.ids;have hgB:=Nat.lt_of_lt_of_le hk1.FU hB1;have HI1:=jh hk1.ids;have HR1:=jh r1;have fO:=jh o1;have HW1:=jh hW1;have Ow:=jh (And.intro hLn (And.intro hL hm));have HN:=jh hn;have alS:=jh (hl.off o1 sj);have HKB:=jh hkb;have aj4:lc<W.heap.size:=hl.lt;have ae4:kb<W1.heap.size:=r1.lt;have HFL:=jh hfL;clear h hl r1 o1 hk1 hgi hW1 hLn hL hn hfL afg zZ hB1;go_wp2_with fail;rw[HW1.out];apply mO HA;rintro e w2 ⟨v,rfl,hown,hb2⟩;obtain⟨al,arL,AL,rfl,hRd,hAB⟩:=JI etG hown;have Ya:=jh hRd;have HAB:=jh hAB;have HB2:=jh hb2;have alR:=jh (alS.out.below hb2 (Nat.lt_of_lt_of_le aj4 fO.out.size));have G8:=hb2.size;have HR2:=jh (HR1.out.below hb2 ae4);have HI2:=jh (HI1.out.of_block (hb2.block g hgB));have hbm:(0:Int)≤m∧(m:Int)≤4096:=om;clear hown hRd hAB hb2 HA k7 kt ht;go_wp2
 go_loopw [11] (λi wr=>∃(q:Nat) (v:Value),q≤m∧i=.int .i64 q∧Hid (Row wr lc 1 (λ_=>v))∧Hid (wr.ownsRow w2.heap.size 49 2 v q (flat (Jh S fL L) q 2))∧Hid (Off [lc] w2 wr)) (λi _=>m-(intOf i).toNat)
 case atStart=>exact⟨0,_,Nat.zero_le _,rfl,alR,jh (World.ownsRow_nil _ _ _ _),jh (Off.refl _ _)⟩
 case round=>
  obtain⟨q,v,hq,rfl,HL,HV,HO⟩:=hrel
  by_cases hlt:q<m
  ·obtain⟨a,ha⟩:=nE (L.getD q 0);have han:a<n:=Ow.out.1 a (by rw[←ha,List.getD_eq_getElem?_getD,List.getElem?_eq_getElem om];exact List.getElem_mem _);have hlA:∀i<m,(AL i).block≠lc:=λi hi=>oD (HAB.out i hi) fO.out.size;have hr:=Ya.out.far (w':=wr) (λi hi=>HO.out.block _ (Ya.out.lt i hi) (by simpa using hlA i hi));have i0:=hr.ix q hlt;obtain⟨sz,hsz⟩:=nE (bO n fL a)
   have c0:wr.cell? (AL q)=some (.int .i64 a):=by
    have:=hr.cell q hlt 0 om;rw[add_zero] at this;unfold gpC at this;rw[if_pos rfl,ha] at this;exact this
   have c1:wr.cell? ⟨(AL q).block,(AL q).off+1,none⟩=some (.int .i64 sz):=by
    have:=hr.cell q hlt 1 om;unfold gpC at this;rw[if_neg (by decide),ha,hsz] at this;exact this
   have hqi:(0:Int)≤q∧(q:Int)<m:=om;have HAs:=jh (And.intro ha hsz);clear hr ha hsz hlA;go_wp2_with fail;obtain⟨nb,hnb⟩:=nE wr.heap.size;obtain⟨V,hV⟩:∃V,(wr.alloc (.cells #[.int .i64 a,.int .i64 sz] 89)).drew=V:=⟨_,rfl⟩
   have o3:Off [] wr V:=by rw[←hV];exact((Off.refl _ _).alloc _).drew
   have r3:Row V nb 2 (λi=>(#[Value.int .i64 a,.int .i64 sz]:Array Value).getD i undef):=by
    rw[←hV,←hnb];exact Row.lit wr _ _ (Nat.le_refl _) lC
   obtain⟨y,hy⟩:=nE (aR S a);have hVe:=jh hV;rw[hnb];have hNB:=jh hnb;have hgn:g<w2.heap.size:=HI2.out.row.lt;have aqG:=HO.out.size;have hkb2:kb<w2.heap.size:=Nat.lt_of_lt_of_le ae4 G8;have hne:kb≠lc:=om
   have hS:∀Q:World,(∀j<nb,j≠lc→j<w2.heap.size→Q.heap[j]?=wr.heap[j]?)→Q.heap[nb]?=V.heap[nb]?→Q.cell? ⟨kb,0,none⟩=some (.slice (some ⟨g,0,none⟩) n cap)∧Q.cell? ⟨nb,0,none⟩=some (.int .i64 a)∧Q.cell? ⟨nb,1,none⟩=some (.int .i64 sz)∧Q.cell? ⟨g,a,none⟩=some (.int .u64 y):=λQ hq1 hq2=>by
    have ek:Q.heap[kb]?=w2.heap[kb]?:=(hq1 kb om hne hkb2).trans (HO.out.block kb hkb2 (by simpa using hne));have eg:Q.heap[g]?=w2.heap[g]?:=(hq1 g om hgl hgn).trans (HO.out.block g hgn (by simpa using hgl));refine⟨(HR2.out.of_block ek).c 0,(r3.of_block hq2).c 0,(r3.of_block hq2).c 1,?_⟩;rw[←hy];exact(HI2.out.of_block eg).cell (by rw[HN.out];exact han)
   have HS':=jh hS;have bW:=jh o3;have HR3:=jh r3;have HY:=jh hy;have HS:=hS V (λj h1 _ _=>o3.block j om sj) rfl;have hL3:Row V lc 1 (λ_=>v):=HL.out.off o3 sj;have hown3:V.ownsRow w2.heap.size 49 2 v q (flat (Jh S fL L) q 2):=aD HV.out λj hj=>o3.block j (aF HV.out hj) sj;have Um:=jh hown3;have gL:=jh hL3;have hsV:=o3.size;clear hS o3 r3 hy hown3 hL3 c0 c1 i0 hV hnb;have hai:(0:Int)≤a∧(a:Int)<n:=om;refine aj (λQ=>Q.cell? ⟨kb,0,none⟩=some (.slice (some ⟨g,0,none⟩) n cap)∧Q.cell? ⟨nb,0,none⟩=some (.int .i64 a)∧Q.cell? ⟨nb,1,none⟩=some (.int .i64 sz)∧Q.cell? ⟨g,a,none⟩=some (.int .u64 y)) (by kernel_rfl) ?_;rw[hVe.out];refine tC 1 ?_;refine tC 2 ?_;refine tC 3 ?_;refine tC 4 ?_;refine tC 5 ?_;refine tC 6 ?_;refine tC 7 ?_;refine tC 8 ?_;refine tC 9 ?_
   try simp only[sD]
   have hln:(q+1)*16≤140737488355328:=om;have jL:q+1≤9223372036854775807:=om;have aeM:w2.heap.size≤V.heap.size:=om
   have yJ:∀(ga cq:Nat) (eT:World),eT.ownsRow w2.heap.size 49 2 (.slice (some ⟨ga,0,none⟩) (q+1:Nat) cq) (q+1) (flat (Jh S fL L) q 2++#[Value.int .u64 y,.int .i64 sz].toList)→V.grownBy eT v.ownBlock→Moved V v ga→
     (eT.cell? ⟨kb,0,none⟩=some (.slice (some ⟨g,0,none⟩) n cap)∧eT.cell? ⟨nb,0,none⟩=some (.int .i64 a)∧eT.cell? ⟨nb,1,none⟩=some (.int .i64 sz)∧eT.cell? ⟨g,a,none⟩=some (.int .u64 y))∧Row eT lc 1 (λ_=>v)∧(∀fG,fG=eT.setCell ⟨lc,0,none⟩ (.slice (some ⟨ga,0,none⟩) (q+1:Nat) cq)→(fG.cell? ⟨kb,0,none⟩=some (.slice (some ⟨g,0,none⟩) n cap)∧fG.cell? ⟨nb,0,none⟩=some (.int .i64 a)∧fG.cell? ⟨nb,1,none⟩=some (.int .i64 sz)∧fG.cell? ⟨g,a,none⟩=some (.int .u64 y))∧Row fG lc 1 (λ_=>.slice (some ⟨ga,0,none⟩) (q+1:Nat) cq)∧fG.ownsRow w2.heap.size 49 2 (.slice (some ⟨ga,0,none⟩) (q+1:Nat) cq) (q+1) (flat (Jh S fL L) (q+1) 2)∧Off [lc] w2 fG):=λga cq eT h1 h2 h3=>by
    have hvb:∀j,v.ownBlock=some j→w2.heap.size≤j∧j<nb:=λj hj=>⟨eD Um.out hj,oD (aF HV.out hj) hNB.out⟩;have e1:∀j<V.heap.size,(j<w2.heap.size∨nb≤j)→eT.heap[j]?=V.heap[j]?:=λj hj hc=>h2.block j hj λe=>oC (hvb j e.symm);have hnV:nb<V.heap.size:=HR3.out.lt;have s11:=HS'.out eT (λj h1 h2 h3=>(e1 j om (.inl h3)).trans (bW.out.block j (oC hNB.out) sj)) (e1 nb hnV (.inr (Nat.le_refl _)));have l11:=gL.out.of_block (e1 lc om (.inl om));refine⟨s11,l11,λfG e12=>?_⟩
    have f12:Off [lc] eT fG:=by rw[e12];exact(Off.refl [lc] eT).setCell (p:=⟨lc,0,none⟩) sj _
    have aqI:=h2.size;refine⟨HS'.out fG (λj h1 h2 h3=>(f12.block j om (by simpa using h2)).trans ((e1 j om (.inl h3)).trans (bW.out.block j (oC hNB.out) sj))) ((f12.block nb om (by have:=hNB.out;have:=HKB.out;simp;omega)).trans (e1 nb hnV (.inr (Nat.le_refl _)))),?_,?_,?_⟩
    ·rw[e12]
     exact(l11.set 0 _).congr λi hi=>by rw[if_pos om]
    ·have hfl:flat (Jh S fL L) (q+1) 2=flat (Jh S fL L) q 2++#[Value.int .u64 y,.int .i64 sz].toList:=by
      rw[fM]
      congr 1
      simp[List.range_succ,Jh];rw[HN.out];have:=HAs.out.1;simp only[List.getD_eq_getElem?_getD] at this;simp[this,HAs.out.2,HY.out]
     rw[hfl];exact aD h1 λj hj=>f12.block j (aF h1 hj) (by have:=eD h1 hj;simp;omega)
    ·refine⟨f12.os.trans (h2.os.trans (bW.out.os.trans HO.out.os)),f12.tape.trans (h2.tape.trans (bW.out.tape.trans HO.out.tape)),f12.output.trans (h2.output.trans (bW.out.output.trans HO.out.output)),oC f12.size,λj hj hn=>?_⟩;exact(f12.block j om hn).trans ((e1 j om (.inl hj)).trans ((bW.out.block j om sj).trans (HO.out.block j hj hn)))
   have yJ:=jh yJ;have yM:∀o:Obj,(V.alloc o).cell? ⟨kb,0,none⟩=some (.slice (some ⟨g,0,none⟩) n cap)∧(V.alloc o).cell? ⟨nb,0,none⟩=some (.int .i64 a)∧(V.alloc o).cell? ⟨nb,1,none⟩=some (.int .i64 sz)∧(V.alloc o).cell? ⟨g,a,none⟩=some (.int .u64 y):=λo=>HS'.out _ (λj h1 h2 h3=>(Below.heap_alloc _ _ _ om).trans (bW.out.block j (oC hNB.out) sj)) (Below.heap_alloc _ _ _ HR3.out.lt);have yM:=jh yM;have hlV:=gL.out.lt;refine Oh [0,10] ?_;refine AllReadyH.cons rfl (λKx hK=>?_) (AllReadyH.cons rfl (λKx hK=>?_) AllReadyH.nil)
   ·have lv:V.cell? ⟨lc,0,none⟩=some v:=gL.out.c 0;go_simp;refine hK.out _ _ HS (λ_=>?_);clear hK lv;refine rC 10 λKx hK=>?_;go_simp;refine hK.out _ _ (yM.out _) (λ_=>?_);clear hK;refine rC 11 λKx hK=>?_;refine iR (w0:=V) rfl abF rfl _ _ rfl w2.heap.size v q _ Um.out rfl #[.int .u64 y,.int .i64 sz] V.heap.size rfl rfl rfl (by simp[Value.oneCell']) hln jL aeM ?_;intro ga cq eT fE oJ oI;obtain⟨Ui,Ho,RO⟩:=yJ.out ga cq eT fE oJ oI;simp only[Act.put,List.setIfInBounds_toArray];refine hK.out _ _ Ui (λ_=>?_);clear hK;have l0:eT.cell? ⟨lc,0,none⟩=some v:=Ho.c 0;have f0:eT.frozen? ⟨lc,0,none⟩=false:=Ho.frozen 0;obtain⟨fG,h12⟩:=nE (eT.setCell ⟨lc,0,none⟩ (.slice (some ⟨ga,0,none⟩) (q+1:Nat) cq));obtain⟨oO,hl12,RV,Sd⟩:=RO fG h12.symm;have acG:=jh hl12;have FH:=jh RV;have acQ:=jh Sd;have H12:=jh h12;clear fE oJ oI Ho RO hl12 RV Sd h12;refine rC 12 λKx hK=>?_;go_simp
    try rw[H12.out]
    refine hK.out _ _ oO (λ_=>?_);clear hK;refine dD ⟨rfl,?_⟩;clear HS Ui oO l0 f0;go_wp2;go_roundw
    case rel=>exact⟨q+1,_,om,by go_num,acG,FH,acQ⟩
    case measure=>simp only[intOf];omega
   ·go_simp;refine hK.out _ _ (yM.out _) (λ_=>?_);clear hK;refine rC 0 λKx hK=>?_;have lv:(V.alloc (.cells #[.int .u64 y,.int .i64 sz] 49)).cell? ⟨lc,0,none⟩=some v:=(gL.out.alloc _).c 0;go_simp;refine hK.out _ _ (yM.out _) (λ_=>?_);clear hK lv;refine rC 11 λKx hK=>?_;refine iR (w0:=V) rfl abF rfl _ _ rfl w2.heap.size v q _ Um.out rfl #[.int .u64 y,.int .i64 sz] V.heap.size rfl rfl rfl (by simp[Value.oneCell']) hln jL aeM ?_;intro ga cq eT fE oJ oI;obtain⟨Ui,Ho,RO⟩:=yJ.out ga cq eT fE oJ oI;simp only[Act.put,List.setIfInBounds_toArray];refine hK.out _ _ Ui (λ_=>?_);clear hK;have l0:eT.cell? ⟨lc,0,none⟩=some v:=Ho.c 0;have f0:eT.frozen? ⟨lc,0,none⟩=false:=Ho.frozen 0;obtain⟨fG,h12⟩:=nE (eT.setCell ⟨lc,0,none⟩ (.slice (some ⟨ga,0,none⟩) (q+1:Nat) cq));obtain⟨oO,hl12,RV,Sd⟩:=RO fG h12.symm;have acG:=jh hl12;have FH:=jh RV;have acQ:=jh Sd;have H12:=jh h12;clear fE oJ oI Ho RO hl12 RV Sd h12;refine rC 12 λKx hK=>?_;go_simp
    try rw[H12.out]
    refine hK.out _ _ oO (λ_=>?_);clear hK;refine dD ⟨rfl,?_⟩;clear HS Ui oO l0 f0;go_wp2;go_roundw
    case rel=>exact⟨q+1,_,om,by go_num,acG,FH,acQ⟩
    case measure=>simp only[intOf];omega
  ·obtain rfl:q=m:=om;have HF:=jh (show Off [lc] W wr from((fO.out.mono (S':=[lc]) sj).trans (Off.of_below (S:=[lc]) HB2.out) sj).trans HO.out sj);go_wp2;go_end0;refine⟨rfl,HF.out,v,HL.out,?_⟩;have h1:=HV.out;refine⟨h1.1,h1.2.imp id ?_⟩;rintro⟨g',cap',cur,e1,hb,rest⟩;exact⟨g',cap',cur,e1,oC fO.out.size,rest⟩
end
end Go.Proofs.YtpaeogglppampaaGreat
