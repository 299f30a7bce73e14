/- Lemmas of the proof. Conditions: as each one states. -/
import Derived.Test.YtpaeogglppampaaGreatDoorQS
import Derived.Test.YtpaeogglppampaaGreatDoorQU
set_option maxRecDepth 100000
set_option maxHeartbeats 16000000
namespace Go.Proofs.YtpaeogglppampaaGreatDoor
open Go.RowKit
def sH (n cap z:Nat) (g:Nat) (b:fF) (cb fb:Nat):Array Value:=#[.slice (some ⟨g,0,none⟩) (n:Nat) cap,.int .i64 (n:Nat),.slice (some ⟨b.l,0,none⟩) z z,.slice (some ⟨b.r,0,none⟩) z z,.slice (some ⟨b.p,0,none⟩) z z,.slice (some ⟨b.h,0,none⟩) z z,.slice (some ⟨b.s,0,none⟩) z z,.pointer (some ⟨cb,0,none⟩),.pointer (some ⟨fb,0,none⟩)]
structure yu (w:World) (B:Nat) (S:List Int) (E:List Ed) (g cb fb:Nat):Prop where
 ids:vP w g S
 JJ:g<B
 cl:yh w B cb S.length E
 fd:tN w B fb S.length E
structure ai6 (w w':World) (s:St) (S:List Int) (K:List Nat) (g cb fb:Nat):Prop where
 kit:Held w.heap.size w' λW=>yu W w'.heap.size S (je S s K) g cb fb
 gge:w.heap.size≤g
 sp:S.Perm (s.TU.map (aJ s.ids))
 kp:K.Perm s.U
 Jh:yt S (K.map s.rc) (je S s K)
 gok:tZ S.length (je S s K)
 off:Off [] w w'
section
variable {w:World} {G:dX} {c:Cf} {nw ex:Int} {ad:Nat} {s:St} {ef:Nat→Int} {U:List Nat} {f:Fs}
theorem wE (h:fM w G c nw ad ex s ef U f) (hV:c.V≤12):
  Calls Tryz.prog 63 #[.pointer (some ⟨G.b,0,none⟩)] w λe w'=>∃S K cap z g b cb fb,e=.returned (.agg (sH S.length cap z g b cb fb))∧ai6 w w' s S K g cb fb:=by
 have HP:=fun{W:World} (o:Off [] w W)=>jh (U4 (h.off o) hV);clear h hV;go_in;go_wp2_with fail;obtain⟨W0,hW0⟩:∃W,w.alloc (.cells #[.slice none 0 0,.int .i64 0,.slice none 0 0,.slice none 0 0,.slice none 0 0,.slice none 0 0,.slice none 0 0,.pointer none,.pointer none] 78)=W:=⟨_,rfl⟩
 have o0:Off [] w W0:=by rw[←hW0];exact(Off.refl _ _).alloc _
 have r0:Row W0 w.heap.size 9 (λi=>(#[Value.slice none 0 0,.int .i64 0,.slice none 0 0,.slice none 0 0,.slice none 0 0,.slice none 0 0,.slice none 0 0,.pointer none,.pointer none]:Array Value).getD i undef):=by
  rw[←hW0];exact Row.lit _ _ _ (Nat.le_refl _) lC
 rw[hW0];obtain⟨rb,hrb⟩:=nE w.heap.size;have WR:=jh hrb;rw[hrb] at r0⊢;have Kh:=jh o0;have yA:=jh r0;clear hW0 hrb r0 o0;refine(HP Kh.out).out.mono ?_;rintro e w1 ⟨S,K,g,cap,ea,ec,lv,A,rfl,P⟩;have Tt:=jh P;obtain⟨n,hn⟩:=nE S.length;obtain⟨E,hE⟩:=nE (je S s K);obtain⟨W1,hW1⟩:∃W,w1.alloc (.cells #[.slice (some ⟨g,0,none⟩) n cap,.int .i64 0,.slice none 0 0,.slice none 0 0,.slice none 0 0,.slice none 0 0,.slice none 0 0,.pointer none,.pointer none] 78)=W:=⟨_,rfl⟩;have HN:=jh hn;have HE:=jh hE;have hES:=P.es;have Xx:=P.gok;rw[hE] at hES Xx⊢;rw[hn] at Xx⊢;have aov:=Xx.Gh
 have o1:Off [] w1 W1:=by rw[←hW1];exact(Off.refl _ _).alloc _
 have r1:Row W1 w1.heap.size 9 (λi=>(#[Value.slice (some ⟨g,0,none⟩) n cap,.int .i64 0,.slice none 0 0,.slice none 0 0,.slice none 0 0,.slice none 0 0,.slice none 0 0,.pointer none,.pointer none]:Array Value).getD i undef):=by
  rw[←hW1];exact Row.lit _ _ _ (Nat.le_refl _) lC
 have hs1:W1.heap.size=w1.heap.size+1:=by rw[←hW1];simp
 obtain⟨kb,hkb⟩:=nE w1.heap.size;have HKB:=jh hkb;have HW1:=jh hW1;rw[hkb] at r1 hs1;have fK:=jh o1;have HR1:=jh r1;have HES:=jh hES;have HGK:=jh Xx;have vE:=jh hs1;have hnE:(E.length:Int)≤16384:=om;clear P hn hE hES Xx o1 r1 hkb hW1 hs1;go_wp2_with fail;rw[HW1.out]
 try rw[HKB.out]
 have HB1:=jh (show Below kb w1 W1 from fK.out.below (oC HKB.out) sj);have hk1:w1.heap.size≤kb:=oC HKB.out;have hk2:kb≤w1.heap.size:=oC HKB.out;have hws:kb<W1.heap.size:=oC vE.out;have HBl:=jh (qG kb ea ec A n E W1 ((HES.out.mono hk1).below HB1.out) (Nat.le_of_lt hws) om);apply mO HBl;clear HBl;rintro e w2 ⟨bb,⟨he,rfl⟩ |⟨n2,o,b,z,hnn,G2,ho,rfl,hT,hlo⟩⟩
 ·exact absurd (sW HGK.out) he
 obtain rfl:n=n2:=Int.ofNat_inj.1 hnn;have HOa:=jh (show Off [kb] W1 w2 from Off.of_below bb);have HR2:=jh (HR1.out.below bb hws);unfold lW;clear hT hlo ho G2 bb hnn;have c1:w2.cell? ⟨kb,1,none⟩=some (.int .i64 0):=HR2.out.c 1;have c2:w2.cell? ⟨kb,2,none⟩=some (.slice none 0 0):=HR2.out.c 2;have c3:w2.cell? ⟨kb,3,none⟩=some (.slice none 0 0):=HR2.out.c 3;have c4:w2.cell? ⟨kb,4,none⟩=some (.slice none 0 0):=HR2.out.c 4;have c5:w2.cell? ⟨kb,5,none⟩=some (.slice none 0 0):=HR2.out.c 5;have c6:w2.cell? ⟨kb,6,none⟩=some (.slice none 0 0):=HR2.out.c 6;have f1:w2.frozen? ⟨kb,1,none⟩=false:=HR2.out.frozen 1;have f2:w2.frozen? ⟨kb,2,none⟩=false:=HR2.out.frozen 2;have f3:w2.frozen? ⟨kb,3,none⟩=false:=HR2.out.frozen 3;have f4:w2.frozen? ⟨kb,4,none⟩=false:=HR2.out.frozen 4;have f5:w2.frozen? ⟨kb,5,none⟩=false:=HR2.out.frozen 5;have f6:w2.frozen? ⟨kb,6,none⟩=false:=HR2.out.frozen 6;go_wp2_with fail;obtain⟨W2,hW2⟩:=nE ((((((w2.setCell ⟨kb,1,none⟩ (.int .i64 n)).setCell ⟨kb,2,none⟩ (.slice (some ⟨b.l,0,none⟩) z z)).setCell ⟨kb,3,none⟩ (.slice (some ⟨b.r,0,none⟩) z z)).setCell ⟨kb,4,none⟩ (.slice (some ⟨b.p,0,none⟩) z z)).setCell ⟨kb,5,none⟩ (.slice (some ⟨b.h,0,none⟩) z z)).setCell ⟨kb,6,none⟩ (.slice (some ⟨b.s,0,none⟩) z z))
 have r2:Row W2 kb 9 (λi=>(#[Value.slice (some ⟨g,0,none⟩) n cap,.int .i64 n,.slice (some ⟨b.l,0,none⟩) z z,.slice (some ⟨b.r,0,none⟩) z z,.slice (some ⟨b.p,0,none⟩) z z,.slice (some ⟨b.h,0,none⟩) z z,.slice (some ⟨b.s,0,none⟩) z z,.pointer none,.pointer none]:Array Value).getD i undef):=by
  rw[←hW2];refine((((((HR2.out.set 1 _).set 2 _).set 3 _).set 4 _).set 5 _).set 6 _).congr λi hi=>?_
  match i,hi with |0,_ |1,_ |2,_ |3,_ |4,_ |5,_ |6,_ |7,_ |8,_=>rfl |k+9,e=>exact absurd e om
 have o2:Off [kb] w2 W2:=by
  rw[←hW2];exact((((((Off.refl [kb] w2).setCell (p:=⟨kb,1,none⟩) sj _).setCell (p:=⟨kb,2,none⟩) sj _).setCell (p:=⟨kb,3,none⟩) sj _).setCell (p:=⟨kb,4,none⟩) sj _).setCell (p:=⟨kb,5,none⟩) sj _).setCell (p:=⟨kb,6,none⟩) sj _
 rw[hW2];have eG:=jh (HOa.out.trans o2 sj);have ajr:=jh r2;clear c1 f1 c2 f2 c3 f3 c4 f4 c5 f5 c6 f6 r2 o2 hW2;have HB2:=jh (HB1.out.trans (eG.out.below (Nat.le_of_lt hws) sj));have hs2:=eG.out.size;have HC:=jh (MS kb ea ec A n E W2 ((HES.out.mono hk1).below HB2.out) om om);apply mO HC;clear HC;rintro e w3 ⟨bb,⟨he,rfl⟩ |⟨n2,cb,hnn,G2,rfl,hcb⟩⟩
 ·exact absurd (sW HGK.out) he
 obtain rfl:n=n2:=Int.ofNat_inj.1 hnn;have HR3:=jh (ajr.out.below bb om);have HOb:=jh (eG.out.trans (Off.of_below (S:=[kb]) bb) sj);have HCB:=jh hcb;have yR:=bb.size;clear hcb bb G2 hnn;have c7:w3.cell? ⟨kb,7,none⟩=some (.pointer none):=HR3.out.c 7;have f7:w3.frozen? ⟨kb,7,none⟩=false:=HR3.out.frozen 7;go_wp2_with fail;obtain⟨W3,hW3⟩:=nE (w3.setCell ⟨kb,7,none⟩ (.pointer (some ⟨cb,0,none⟩)))
 have r3:Row W3 kb 9 (λi=>(#[Value.slice (some ⟨g,0,none⟩) n cap,.int .i64 n,.slice (some ⟨b.l,0,none⟩) z z,.slice (some ⟨b.r,0,none⟩) z z,.slice (some ⟨b.p,0,none⟩) z z,.slice (some ⟨b.h,0,none⟩) z z,.slice (some ⟨b.s,0,none⟩) z z,.pointer (some ⟨cb,0,none⟩),.pointer none]:Array Value).getD i undef):=by
  rw[←hW3];refine(HR3.out.set 7 _).congr λi hi=>?_
  match i,hi with |0,_ |1,_ |2,_ |3,_ |4,_ |5,_ |6,_ |7,_ |8,_=>rfl |k+9,e=>exact absurd e om
 have o3:Off [kb] w3 W3:=by
  rw[←hW3];exact(Off.refl [kb] w3).setCell (p:=⟨kb,7,none⟩) sj _
 rw[hW3];have dh:=jh (HOb.out.trans o3 sj);have ajq:=jh r3;have aeX:=jh o3;clear c7 f7 r3 o3 hW3;have HB3:=jh (HB1.out.trans (dh.out.below (Nat.le_of_lt hws) sj));have hs3:=aeX.out.size;have HM:=jh (Qm kb ea ec A n E W3 ((HES.out.mono hk1).below HB3.out) om om);apply mO HM;clear HM;rintro e w4 ⟨bb,⟨he,rfl⟩ |⟨n2,fb,hnn,G2,rfl,hfb⟩⟩
 ·exact absurd (sW HGK.out) he
 obtain rfl:n=n2:=Int.ofNat_inj.1 hnn;have HR4:=jh (ajq.out.below bb om);have HOc:=jh (dh.out.trans (Off.of_below (S:=[kb]) bb) sj);have aju:=jh (aeX.out.trans (Off.of_below (S:=[kb]) bb) sj);have HFB:=jh hfb;have Bz:=bb.size;clear hfb bb G2 hnn;have aeM:=yA.out.off Tt.out.off sj;have aoq:=yA.out.lt;have hrk:rb<kb:=oC Tt.out.off.size;have mP:=jh ((aeM.off fK.out sj).off HOc.out (by simp;omega));have c0:w4.cell? ⟨kb,0,none⟩=some (.slice (some ⟨g,0,none⟩) n cap):=HR4.out.c 0;have c1:w4.cell? ⟨kb,1,none⟩=some (.int .i64 n):=HR4.out.c 1;have c2:w4.cell? ⟨kb,2,none⟩=some (.slice (some ⟨b.l,0,none⟩) z z):=HR4.out.c 2;have c3:w4.cell? ⟨kb,3,none⟩=some (.slice (some ⟨b.r,0,none⟩) z z):=HR4.out.c 3;have c4:w4.cell? ⟨kb,4,none⟩=some (.slice (some ⟨b.p,0,none⟩) z z):=HR4.out.c 4;have c5:w4.cell? ⟨kb,5,none⟩=some (.slice (some ⟨b.h,0,none⟩) z z):=HR4.out.c 5;have c6:w4.cell? ⟨kb,6,none⟩=some (.slice (some ⟨b.s,0,none⟩) z z):=HR4.out.c 6;have c7:w4.cell? ⟨kb,7,none⟩=some (.pointer (some ⟨cb,0,none⟩)):=HR4.out.c 7;have f8:w4.frozen? ⟨kb,8,none⟩=false:=HR4.out.frozen 8;have h0:w4.frozen? ⟨rb,0,none⟩=false:=mP.out.frozen 0;have h1:w4.frozen? ⟨rb,1,none⟩=false:=mP.out.frozen 1;have h2:w4.frozen? ⟨rb,2,none⟩=false:=mP.out.frozen 2;have h3:w4.frozen? ⟨rb,3,none⟩=false:=mP.out.frozen 3;have h4:w4.frozen? ⟨rb,4,none⟩=false:=mP.out.frozen 4;have h5:w4.frozen? ⟨rb,5,none⟩=false:=mP.out.frozen 5;have h6:w4.frozen? ⟨rb,6,none⟩=false:=mP.out.frozen 6;have h7:w4.frozen? ⟨rb,7,none⟩=false:=mP.out.frozen 7;have h8:w4.frozen? ⟨rb,8,none⟩=false:=mP.out.frozen 8;have q0:w4.cell? ⟨rb,0,none⟩=some (.slice none 0 0):=mP.out.c 0;have q1:w4.cell? ⟨rb,1,none⟩=some (.int .i64 0):=mP.out.c 1;have q2:w4.cell? ⟨rb,2,none⟩=some (.slice none 0 0):=mP.out.c 2;have q3:w4.cell? ⟨rb,3,none⟩=some (.slice none 0 0):=mP.out.c 3;have q4:w4.cell? ⟨rb,4,none⟩=some (.slice none 0 0):=mP.out.c 4;have q5:w4.cell? ⟨rb,5,none⟩=some (.slice none 0 0):=mP.out.c 5;have q6:w4.cell? ⟨rb,6,none⟩=some (.slice none 0 0):=mP.out.c 6;have q7:w4.cell? ⟨rb,7,none⟩=some (.pointer none):=mP.out.c 7;have q8:w4.cell? ⟨rb,8,none⟩=some (.pointer none):=mP.out.c 8;have d8:w4.cell? ⟨kb,8,none⟩=some (.pointer none):=HR4.out.c 8;have hne:rb≠kb:=om;have hne2:kb≠rb:=om;clear aeM;go_wp2_with fail;obtain⟨W5,kZ⟩:=nE (((((((((((w4.setCell ⟨kb,8,none⟩ (.pointer (some ⟨fb,0,none⟩)))).setCell ⟨rb,0,none⟩ (.slice (some ⟨g,0,none⟩) n cap)).setCell ⟨rb,1,none⟩ (.int .i64 n)).setCell ⟨rb,2,none⟩ (.slice (some ⟨b.l,0,none⟩) z z)).setCell ⟨rb,3,none⟩ (.slice (some ⟨b.r,0,none⟩) z z)).setCell ⟨rb,4,none⟩ (.slice (some ⟨b.p,0,none⟩) z z)).setCell ⟨rb,5,none⟩ (.slice (some ⟨b.h,0,none⟩) z z)).setCell ⟨rb,6,none⟩ (.slice (some ⟨b.s,0,none⟩) z z)).setCell ⟨rb,7,none⟩ (.pointer (some ⟨cb,0,none⟩))).setCell ⟨rb,8,none⟩ (.pointer (some ⟨fb,0,none⟩)))
 have r5:Row W5 rb 9 (λi=>(#[Value.slice (some ⟨g,0,none⟩) n cap,.int .i64 n,.slice (some ⟨b.l,0,none⟩) z z,.slice (some ⟨b.r,0,none⟩) z z,.slice (some ⟨b.p,0,none⟩) z z,.slice (some ⟨b.h,0,none⟩) z z,.slice (some ⟨b.s,0,none⟩) z z,.pointer (some ⟨cb,0,none⟩),.pointer (some ⟨fb,0,none⟩)]:Array Value).getD i undef):=by
  rw[←kZ];refine((((((((((mP.out.setOther (a:=⟨kb,8,none⟩) hne _).set 0 _).set 1 _).set 2 _).set 3 _).set 4 _).set 5 _).set 6 _).set 7 _).set 8 _).congr λi hi=>?_
  match i,hi with |0,_ |1,_ |2,_ |3,_ |4,_ |5,_ |6,_ |7,_ |8,_=>rfl |k+9,e=>exact absurd e om
 have o5:Off [kb,rb] w4 W5:=by
  rw[←kZ];exact((((((((((Off.refl [kb,rb] w4).setCell (p:=⟨kb,8,none⟩) sj _).setCell (p:=⟨rb,0,none⟩) sj _).setCell (p:=⟨rb,1,none⟩) sj _).setCell (p:=⟨rb,2,none⟩) sj _).setCell (p:=⟨rb,3,none⟩) sj _).setCell (p:=⟨rb,4,none⟩) sj _).setCell (p:=⟨rb,5,none⟩) sj _).setCell (p:=⟨rb,6,none⟩) sj _).setCell (p:=⟨rb,7,none⟩) sj _).setCell (p:=⟨rb,8,none⟩) sj _
 rw[kZ];clear c0 c1 c2 c3 c4 c5 c6 c7 f8 d8 h0 q0 h1 q1 h2 q2 h3 q3 h4 q4 h5 q5 h6 q6 h7 q7 h8 q8 kZ;have HR5:=jh r5;have nk:=jh o5;have s0:W5.cell? ⟨rb,0,none⟩=some (.slice (some ⟨g,0,none⟩) n cap):=r5.c 0;have s1:W5.cell? ⟨rb,1,none⟩=some (.int .i64 n):=r5.c 1;have s2:W5.cell? ⟨rb,2,none⟩=some (.slice (some ⟨b.l,0,none⟩) z z):=r5.c 2;have s3:W5.cell? ⟨rb,3,none⟩=some (.slice (some ⟨b.r,0,none⟩) z z):=r5.c 3;have s4:W5.cell? ⟨rb,4,none⟩=some (.slice (some ⟨b.p,0,none⟩) z z):=r5.c 4;have s5:W5.cell? ⟨rb,5,none⟩=some (.slice (some ⟨b.h,0,none⟩) z z):=r5.c 5;have s6:W5.cell? ⟨rb,6,none⟩=some (.slice (some ⟨b.s,0,none⟩) z z):=r5.c 6;have s7:W5.cell? ⟨rb,7,none⟩=some (.pointer (some ⟨cb,0,none⟩)):=r5.c 7;have s8:W5.cell? ⟨rb,8,none⟩=some (.pointer (some ⟨fb,0,none⟩)):=r5.c 8;clear r5;refine bodyPost_ret (v:=.agg (sH n cap z g b cb fb)) (by simp[results,Tryz.results63,go_sem,s0,s1,s2,s3,s4,s5,s6,s7,s8,sH]) rfl ?_;have hWn:W0.heap.size≤w1.heap.size:=Tt.out.off.size;have hgr:rb<g:=oC Tt.out.new;have Xx:g<kb:=oC Tt.out.lt;have aom:=nk.out.size;have hrw:=WR.out;have hK:∀W:World,(∀j,w.heap.size≤j→j<W5.heap.size→W.heap[j]?=W5.heap[j]?)→∀j,rb<j→j≠kb→j<w4.heap.size→W.heap[j]?=w4.heap[j]?:=λW hW j h1 h2 h3=>(hW j om om).trans (nk.out.block j h3 (by simp;omega));refine⟨S,K,cap,z,g,b,cb,fb,by rw[HN.out],λW hW=>?_,om,Tt.out.sp,Tt.out.kp,Tt.out.Jh,Tt.out.gok,?_⟩
 ·have h3:=hs2;have h4:=hs3;refine⟨Tt.out.ids.of_block ((hK W hW g hgr om om).trans ((HOc.out.block g om (by simp;omega)).trans (fK.out.block g om sj))),om,?_,?_⟩
  ·rw[HN.out,HE.out];exact(HCB.out W λj h1 h2=>(hK W hW j om om om).trans (aju.out.block j h2 (by simp;omega))).mono om
  ·rw[HN.out,HE.out];exact(HFB.out W λj h1 h2=>hK W hW j om om om).mono om
 ·exact((((Kh.out.trans Tt.out.off sj).trans fK.out sj).trans HOc.out (by simp;omega)).trans nk.out (by simp;omega))
end
def Ob (wb:Nat) (mk:Bool) (ver:Int) (kv:Array Value) (bu:Int) (i:Nat):Value:=
 if i=0 then .pointer (some ⟨wb,0,none⟩) else if i=1 then .bool mk else if i=2 then .int .u64 ver else if i<12 then kv.getD (i-3) undef else .int .i64 bu
def ahv:Array Value:=#[.slice none 0 0,.int .i64 0,.slice none 0 0,.slice none 0 0,.slice none 0 0,.slice none 0 0,.slice none 0 0,.pointer none,.pointer none]
def Ih (w:World) (G:dX) (c:Cf) (vb:Nat):Prop:=Row w vb 13 (Ob G.b false 0 ahv 0)∧vb∉G.bl c.E
structure oz (w:World) (G:dX) (c:Cf) (vb:Nat) (ver:Int) (s:St) (lo hi:Nat) (S:List Int) (K:List Nat) (cap z g:Nat) (b:fF) (cb fb:Nat):Prop where
 row:Row w vb 13 (Ob G.b true ver (sH S.length cap z g b cb fb) 1)
 kit:∀W:World,(∀j,lo≤j→j<hi→W.heap[j]?=w.heap[j]?)→yu W hi S (je S s K) g cb fb
 vg:hi≤w.heap.size
 vlt:vb<lo
 JJ:∀j∈G.bl c.E,j<lo
 Yf:vb∉G.bl c.E
 gge:lo≤g
 sp:S.Perm (s.TU.map (aJ s.ids))
 kp:K.Perm s.U
 Jh:yt S (K.map s.rc) (je S s K)
 gok:tZ S.length (je S s K)
section
variable {w w':World} {G:dX} {c:Cf} {nw ex:Int} {ad:Nat} {s:St} {ef:Nat→Int} {U:List Nat} {f:Fs} {vb lo hi:Nat} {ver:Int} {S:List Int} {K:List Nat} {cap z g:Nat} {b:fF} {cb fb:Nat}
theorem Ih.off {T:List Nat} (h:Ih w G c vb) (o:Off T w w') (hT:∀j∈T,j≠vb):Ih w' G c vb:=⟨h.1.off o (λe=>hT _ e rfl),h.2⟩
theorem oz.off {T:List Nat} (h:oz w G c vb ver s lo hi S K cap z g b cb fb) (o:Off T w w') (hT:∀j∈T,j≠vb∧(j<lo∨hi≤j)):oz w' G c vb ver s lo hi S K cap z g b cb fb:=
 ⟨h.row.off o (λe=>(hT _ e).1 rfl),λW hW=>h.kit W λj h1 h2=>(hW j h1 h2).trans (o.block j (Nat.lt_of_lt_of_le h2 h.vg) λc=>oC ((hT j c).2)),Nat.le_trans h.vg o.size,h.vlt,h.JJ,h.Yf,h.gge,h.sp,h.kp,h.Jh,h.gok⟩
theorem oz.self (h:oz w G c vb ver s lo hi S K cap z g b cb fb):yu w hi S (je S s K) g cb fb:=h.kit w λ_ _ _=>rfl
theorem qz {wb:Nat} {mk:Bool} {kv:Array Value} {bu:Int} (h:Row w vb 13 (Ob wb mk ver kv bu)):
  Calls Tryz.prog 24 #[.pointer (some ⟨vb,0,none⟩)] w λe w'=>e=.returned (.bool true)∧w'=w:=by
 have c0:w.cell? ⟨vb,0,none⟩=some (.pointer (some ⟨wb,0,none⟩)):=h.c 0;clear h;go_in;go_wp2;go_ret;exact⟨rfl,rfl⟩
theorem CY (h:fM w G c nw ad ex s ef U f) (hc:Xa c):
  Calls Tryz.prog 9 #[.pointer (some ⟨G.b,0,none⟩)] w λe w'=>∃vb,e=.returned (.tuple #[.pointer (some ⟨vb,0,none⟩),.int .i64 0])∧Off [] w w'∧w.heap.size≤vb∧Ih w' G c vb:=by
 have HC:=jh (Ko h);have oJ:=jh h.lt;have hd:decide (c.win<1)=false:=dF (by have:=hc.win;unfold BZ at this;omega);clear h hc;go_in;go_wp2_with fail;apply mO HC;rintro e w1 ⟨rfl,o1⟩;have HO:=jh o1;clear o1 HC
 have fx:∀W,(Instr.field 23 (.agg #[.int .i64 c.win,.int .i64 c.E,.int .i64 c.V,.int .i64 c.dr]) 0).run Tryz.prog W=.ok (.int .i64 c.win) W:=λ_=>by kernel_rfl
 go_wp2;go_ret2;refine⟨_,rfl,HO.out.alloc _,HO.out.size,Row.lit _ _ _ sj lC,λhj=>?_⟩;have:=oJ.out _ hj;have:=HO.out.size;omega
theorem rA {mk:Bool} {kv:Array Value} {bu:Int} (h:Row w vb 13 (Ob G.b mk ver kv bu)) (hw:qW w G c nw ad ex s) (u:Int):
  Calls Tryz.prog 25 #[.pointer (some ⟨vb,0,none⟩),.int .u64 u] w λe w'=>∃r:Bool,e=.returned (.bool r)∧(r=true↔s.has u)∧qW w' G c nw ad ex s∧Bo (G.bl c.E) (G.bl c.E) w w':=by
 have HS:=jh (Km hw u);have c0:w.cell? ⟨vb,0,none⟩=some (.pointer (some ⟨G.b,0,none⟩)):=h.c 0;clear h hw;go_in;go_wp2_with fail;apply mO HS;rintro e w1 ⟨y,er,rfl,hr,hw1,b1⟩;have HW:=jh (And.intro hw1 b1);clear hw1 b1 HS
 rcases hr with⟨rfl,hu⟩ |⟨rfl,hu⟩
 ·have HU:=jh hu;clear hu;go_wp2;go_ret;exact⟨true,rfl,⟨λ_=>HU.out,λ_=>rfl⟩,HW.out⟩
 ·have HU:=jh hu;clear hu;go_wp2;go_ret;exact⟨false,rfl,⟨λe=>(by cases e),λe=>absurd e HU.out⟩,HW.out⟩
theorem CV (h:Ih w G c vb) (hw:fM w G c nw ad ex s ef U f) (hV:c.V≤12) {fq:Nat} {cq:Array Value} (eq:∀args w,(callFunc fq args).run Tryz.prog w=.ok (.enter fq args) w) {P:World→Prop}
  (HQ:∀W lo hi S K cap z g b cb fb,Off [vb] w W→w.heap.size≤lo→oz W G c vb (qA ad ex) s lo hi S K cap z g b cb fb→Calls Tryz.prog fq (#[.agg (sH S.length cap z g b cb fb)]++cq) W λe w'=>e=.returned (.tuple #[])∧P w'):
  Calls Tryz.prog 26 #[.pointer (some ⟨vb,0,none⟩),.func (.func fq) #[] cq] w λe w'=>e=.returned (.tuple #[])∧P w':=by
 have HQ:=jh HQ;have HVr:=jh (CR hw);obtain⟨ver,Gs⟩:=nE (qA ad ex);rw[Gs] at HVr;have aaH:=jh Gs;have HB:=fun{W:World} (o:Off [] w W)=>jh (wE (hw.off o) hV);have oJ:=jh hw.lt;have c0:w.cell? ⟨vb,0,none⟩=some (.pointer (some ⟨G.b,0,none⟩)):=h.1.c 0;have H:=jh h;clear h hw Gs;go_in;go_wp2_with fail;apply mO HVr;rintro e w1 ⟨rfl,rfl⟩;clear HVr;go_wp2_with fail;obtain⟨W1,hW1⟩:∃W,(w.alloc (.cells #[.bool true,.int .u64 ver] 70)).drew=W:=⟨_,rfl⟩
 have o1:Off [] w W1:=by rw[←hW1];exact((Off.refl _ _).alloc _).drew
 have t1:Row W1 w.heap.size 2 (λi=>(#[Value.bool true,.int .u64 ver]:Array Value).getD i undef):=by
  rw[←hW1];exact Row.lit w _ _ (Nat.le_refl _) lC
 obtain⟨tb,htb⟩:=nE w.heap.size;have CJ:=jh htb;rw[htb] at t1;rw[htb];rw[hW1];obtain⟨W2,hW2⟩:=nE W1.drew;have HW2:=jh hW2
 have o2:Off [] w W2:=by rw[←hW2];exact o1.drew
 have t2:Row W2 tb 2 (λi=>(#[Value.bool true,.int .u64 ver]:Array Value).getD i undef):=by rw[←hW2];exact t1
 have v2:=H.out.1.off o2 sj;have HS:W2.cell? ⟨vb,1,none⟩=some (.bool false)∧W2.cell? ⟨vb,2,none⟩=some (.int .u64 0)∧W2.cell? ⟨tb,0,none⟩=some (.bool true)∧W2.cell? ⟨tb,1,none⟩=some (.int .u64 ver):=⟨v2.c 1,v2.c 2,t2.c 0,t2.c 1⟩;have HT2:=jh t2;have Tn:=jh v2;have eG:=jh o2;clear htb hW1 hW2 o1 o2 t1 t2 v2 c0;refine aj (λW=>W.cell? ⟨vb,1,none⟩=some (.bool false)∧W.cell? ⟨vb,2,none⟩=some (.int .u64 0)∧W.cell? ⟨tb,0,none⟩=some (.bool true)∧W.cell? ⟨tb,1,none⟩=some (.int .u64 ver)) (by kernel_rfl) ?_;rw[HW2.out];refine tC 0 ?_;refine tC 1 ?_;refine tC 2 ?_;refine tC 3 ?_;refine tC 4 ?_;refine tC 5 ?_
 try simp only[sD]
 refine dD ⟨rfl,?_⟩;clear HS;have v2:=Tn.out;have k0:W2.cell? ⟨vb,0,none⟩=some (.pointer (some ⟨G.b,0,none⟩)):=v2.c 0;clear v2;go_wp2_with fail;refine(HB eG.out).out.mono ?_;rintro e w3 ⟨S,K,cap,z,g,b,cb,fb,rfl,R⟩;have HR:=jh R;have v3:=Tn.out.off R.off sj;have t3:=HT2.out.off R.off sj;have Uf:=jh v3;unfold sH;have c0:w3.cell? ⟨vb,0,none⟩=some (.pointer (some ⟨G.b,0,none⟩)):=v3.c 0;have c1:w3.cell? ⟨vb,1,none⟩=some (.bool false):=v3.c 1;have c2:w3.cell? ⟨vb,2,none⟩=some (.int .u64 0):=v3.c 2;have c3:w3.cell? ⟨vb,3,none⟩=some (.slice none 0 0):=v3.c 3;have c4:w3.cell? ⟨vb,4,none⟩=some (.int .i64 0):=v3.c 4;have c5:w3.cell? ⟨vb,5,none⟩=some (.slice none 0 0):=v3.c 5;have c6:w3.cell? ⟨vb,6,none⟩=some (.slice none 0 0):=v3.c 6;have c7:w3.cell? ⟨vb,7,none⟩=some (.slice none 0 0):=v3.c 7;have c8:w3.cell? ⟨vb,8,none⟩=some (.slice none 0 0):=v3.c 8;have c9:w3.cell? ⟨vb,9,none⟩=some (.slice none 0 0):=v3.c 9;have c10:w3.cell? ⟨vb,10,none⟩=some (.pointer none):=v3.c 10;have c11:w3.cell? ⟨vb,11,none⟩=some (.pointer none):=v3.c 11;have c12:w3.cell? ⟨vb,12,none⟩=some (.int .i64 0):=v3.c 12;have f1:w3.frozen? ⟨vb,1,none⟩=false:=v3.frozen 1;have f2:w3.frozen? ⟨vb,2,none⟩=false:=v3.frozen 2;have f3:w3.frozen? ⟨vb,3,none⟩=false:=v3.frozen 3;have f4:w3.frozen? ⟨vb,4,none⟩=false:=v3.frozen 4;have f5:w3.frozen? ⟨vb,5,none⟩=false:=v3.frozen 5;have f6:w3.frozen? ⟨vb,6,none⟩=false:=v3.frozen 6;have f7:w3.frozen? ⟨vb,7,none⟩=false:=v3.frozen 7;have f8:w3.frozen? ⟨vb,8,none⟩=false:=v3.frozen 8;have f9:w3.frozen? ⟨vb,9,none⟩=false:=v3.frozen 9;have f10:w3.frozen? ⟨vb,10,none⟩=false:=v3.frozen 10;have f11:w3.frozen? ⟨vb,11,none⟩=false:=v3.frozen 11;have f12:w3.frozen? ⟨vb,12,none⟩=false:=v3.frozen 12;have p0:w3.cell? ⟨tb,0,none⟩=some (.bool true):=t3.c 0;have p1:w3.cell? ⟨tb,1,none⟩=some (.int .u64 ver):=t3.c 1;have hvw:vb<w.heap.size:=Row.lt H.out.1;have hne:vb≠tb:=oC CJ.out;have hne2:tb≠vb:=oC CJ.out;clear R v3 t3 k0;go_wp2_with fail;obtain⟨W4,gT⟩:=nE (((((((((((((w3).setCell ⟨vb,3,none⟩ (.slice (some ⟨g,0,none⟩) S.length cap)).setCell ⟨vb,4,none⟩ (.int .i64 S.length)).setCell ⟨vb,5,none⟩ (.slice (some ⟨b.l,0,none⟩) z z)).setCell ⟨vb,6,none⟩ (.slice (some ⟨b.r,0,none⟩) z z)).setCell ⟨vb,7,none⟩ (.slice (some ⟨b.p,0,none⟩) z z)).setCell ⟨vb,8,none⟩ (.slice (some ⟨b.h,0,none⟩) z z)).setCell ⟨vb,9,none⟩ (.slice (some ⟨b.s,0,none⟩) z z)).setCell ⟨vb,10,none⟩ (.pointer (some ⟨cb,0,none⟩))).setCell ⟨vb,11,none⟩ (.pointer (some ⟨fb,0,none⟩))).setCell ⟨vb,1,none⟩ (.bool true)).setCell ⟨vb,2,none⟩ (.int .u64 ver)).setCell ⟨vb,12,none⟩ (.int .i64 1))
 have r4:Row W4 vb 13 (Ob G.b true ver (sH S.length cap z g b cb fb) 1):=by
  rw[←gT];refine((((((((((((Uf.out.set 3 _).set 4 _).set 5 _).set 6 _).set 7 _).set 8 _).set 9 _).set 10 _).set 11 _).set 1 _).set 2 _).set 12 _).congr λi hi=>?_
  match i,hi with |0,_ |1,_ |2,_ |3,_ |4,_ |5,_ |6,_ |7,_ |8,_ |9,_ |10,_ |11,_ |12,_=>rfl |k+13,e=>exact absurd e om
 have o4:Off [vb] w3 W4:=by
  rw[←gT];exact((((((((((((Off.refl [vb] w3).setCell (p:=⟨vb,3,none⟩) sj _).setCell (p:=⟨vb,4,none⟩) sj _).setCell (p:=⟨vb,5,none⟩) sj _).setCell (p:=⟨vb,6,none⟩) sj _).setCell (p:=⟨vb,7,none⟩) sj _).setCell (p:=⟨vb,8,none⟩) sj _).setCell (p:=⟨vb,9,none⟩) sj _).setCell (p:=⟨vb,10,none⟩) sj _).setCell (p:=⟨vb,11,none⟩) sj _).setCell (p:=⟨vb,1,none⟩) sj _).setCell (p:=⟨vb,2,none⟩) sj _).setCell (p:=⟨vb,12,none⟩) sj _
 rw[gT];clear c0 c1 c2 c3 c4 c5 c6 c7 c8 c9 c10 c11 c12 f1 f2 f3 f4 f5 f6 f7 f8 f9 f10 f11 f12 p0 p1 gT;have hs2:=eG.out.size;have hs3:=HR.out.off.size
 have HK:=jh (show oz W4 G c vb ver s W2.heap.size w3.heap.size S K cap z g b cb fb from
  ⟨r4,λW hW=>HR.out.kit W λj h1 h2=>(hW j h1 h2).trans (o4.block j h2 (by simp;omega)),o4.size,om,λj hj=>oC (oJ.out j hj),H.out.2,HR.out.gge,HR.out.sp,HR.out.kp,HR.out.Jh,HR.out.gok⟩)
 have jw:=jh (show Off [vb] w W4 from((eG.out.mono (S':=[vb]) sj).trans HR.out.off sj).trans o4 sj);clear r4 o4;rw[aaH.out] at HQ;refine(HQ.out _ _ _ _ _ _ _ _ _ _ _ jw.out eG.out.size HK.out).mono ?_;rintro e w5 ⟨rfl,hP⟩;have HP:=jh hP;clear hP;go_wp2;go_end0;exact⟨rfl,HP.out⟩
theorem NY {lo hi:Nat} {S:List Int} {K:List Nat} {cap z g:Nat} {b:fF} {cb fb:Nat} (h:oz w G c vb (qA ad ex) s lo hi S K cap z g b cb fb) (hw:fM w G c nw ad ex s ef U f) (hV:c.V≤12) {fq:Nat} {cq:Array Value} (eq:∀args w,(callFunc fq args).run Tryz.prog w=.ok (.enter fq args) w) {P:World→Prop}
  (HQ:∀W,Off [] w W→oz W G c vb (qA ad ex) s lo hi S K cap z g b cb fb→Calls Tryz.prog fq (#[.agg (sH S.length cap z g b cb fb)]++cq) W λe w'=>e=.returned (.tuple #[])∧P w'):
  Calls Tryz.prog 26 #[.pointer (some ⟨vb,0,none⟩),.func (.func fq) #[] cq] w λe w'=>e=.returned (.tuple #[])∧P w':=by
 have HQ:=jh HQ;have HVr:=jh (CR hw);obtain⟨ver,Gs⟩:=nE (qA ad ex);rw[Gs] at HVr h;have aaH:=jh Gs;have HB:=fun{W:World} (o:Off [] w W)=>jh (wE (hw.off o) hV);have oJ:=jh hw.lt;have c0:w.cell? ⟨vb,0,none⟩=some (.pointer (some ⟨G.b,0,none⟩)):=h.row.c 0;have H:=jh h;clear h hw Gs;go_in;go_wp2_with fail;apply mO HVr;rintro e w1 ⟨rfl,rfl⟩;clear HVr;go_wp2_with fail;obtain⟨W1,hW1⟩:∃W,(w.alloc (.cells #[.bool true,.int .u64 ver] 70)).drew=W:=⟨_,rfl⟩
 have o1:Off [] w W1:=by rw[←hW1];exact((Off.refl _ _).alloc _).drew
 have t1:Row W1 w.heap.size 2 (λi=>(#[Value.bool true,.int .u64 ver]:Array Value).getD i undef):=by
  rw[←hW1];exact Row.lit w _ _ (Nat.le_refl _) lC
 obtain⟨tb,htb⟩:=nE w.heap.size;have CJ:=jh htb;rw[htb] at t1;rw[htb];rw[hW1];obtain⟨W2,hW2⟩:=nE W1.drew;have HW2:=jh hW2
 have o2:Off [] w W2:=by rw[←hW2];exact o1.drew
 have t2:Row W2 tb 2 (λi=>(#[Value.bool true,.int .u64 ver]:Array Value).getD i undef):=by rw[←hW2];exact t1
 have v2:=H.out.row.off o2 sj;have HS:W2.cell? ⟨vb,1,none⟩=some (.bool true)∧W2.cell? ⟨vb,2,none⟩=some (.int .u64 ver)∧W2.cell? ⟨tb,0,none⟩=some (.bool true)∧W2.cell? ⟨tb,1,none⟩=some (.int .u64 ver):=⟨v2.c 1,v2.c 2,t2.c 0,t2.c 1⟩;have HT2:=jh t2;have Tn:=jh v2;have eG:=jh o2;clear htb hW1 hW2 o1 o2 t1 t2 v2 c0;refine aj (λW=>W.cell? ⟨vb,1,none⟩=some (.bool true)∧W.cell? ⟨vb,2,none⟩=some (.int .u64 ver)∧W.cell? ⟨tb,0,none⟩=some (.bool true)∧W.cell? ⟨tb,1,none⟩=some (.int .u64 ver)) (by kernel_rfl) ?_;rw[HW2.out];refine tC 0 ?_;refine tC 1 ?_;refine tC 2 ?_;refine tC 3 ?_;refine tC 4 ?_;refine tC 5 ?_
 try simp only[sD]
 refine dD ⟨rfl,?_⟩;clear HS;have v2:=Tn.out;have k3:W2.cell? ⟨vb,3,none⟩=some (.slice (some ⟨g,0,none⟩) S.length cap):=v2.c 3;have k4:W2.cell? ⟨vb,4,none⟩=some (.int .i64 S.length):=v2.c 4;have k5:W2.cell? ⟨vb,5,none⟩=some (.slice (some ⟨b.l,0,none⟩) z z):=v2.c 5;have k6:W2.cell? ⟨vb,6,none⟩=some (.slice (some ⟨b.r,0,none⟩) z z):=v2.c 6;have k7:W2.cell? ⟨vb,7,none⟩=some (.slice (some ⟨b.p,0,none⟩) z z):=v2.c 7;have k8:W2.cell? ⟨vb,8,none⟩=some (.slice (some ⟨b.h,0,none⟩) z z):=v2.c 8;have k9:W2.cell? ⟨vb,9,none⟩=some (.slice (some ⟨b.s,0,none⟩) z z):=v2.c 9;have k10:W2.cell? ⟨vb,10,none⟩=some (.pointer (some ⟨cb,0,none⟩)):=v2.c 10;have k11:W2.cell? ⟨vb,11,none⟩=some (.pointer (some ⟨fb,0,none⟩)):=v2.c 11;clear v2;have HK:=jh (H.out.off eG.out sj);go_wp2_with fail;rw[aaH.out] at HQ;refine(HQ.out _ eG.out HK.out).mono ?_;rintro e w5 ⟨rfl,hP⟩;have HP:=jh hP;clear hP;go_wp2;go_end0;exact⟨rfl,HP.out⟩
end
section
variable {w w':World} {B n:Nat} {S:List Int} {E:List Ed} {g cb fb:Nat}
theorem yu.below (h:yu w B S E g cb fb) (hb:Below B w w'):yu w' B S E g cb fb:=⟨h.ids.of_block (hb.block g h.JJ),h.JJ,h.cl.below hb,h.fd.below hb⟩
theorem yu.off {T:List Nat} (h:yu w B S E g cb fb) (o:Off T w w') (hB:B≤w.heap.size) (hT:∀j∈T,B≤j):yu w' B S E g cb fb:=h.below (o.below hB hT)
theorem JZ {W:World} (h:yu W B S E g cb fb) (hB:B≤W.heap.size) {cap z:Nat} {b:fF} {u θ:Int} {ub tb gb p:Nat} (hu:W.cell? ⟨ub,0,none⟩=some (.int .u64 u)) (ht:W.cell? ⟨tb,0,none⟩=some (.int .i64 θ)) (Gt:ub<W.heap.size) (htl:tb<W.heap.size) {x0 x1:Value} (hg:Row W gb 2 (λi=>(#[x0,x1]:Array Value).getD i undef))
  (hp:p<S.length) (xE:aQ S p=u) (hgg:g≠gb):
  Calls Tryz.prog 33 #[.agg (sH S.length cap z g b cb fb),.pointer (some ⟨ub,0,none⟩),.pointer (some ⟨tb,0,none⟩),.pointer (some ⟨gb,0,none⟩)] W λe w'=>e=.returned (.tuple #[])∧Off [gb] W w'∧Row w' gb 2 (λi=>(#[Value.int .u64 (aQ S (gQ E θ p)),.int .i64 (dU S.length (gQ E θ) p:Nat)]:Array Value).getD i undef):=by
 obtain⟨lb,hlb⟩:=nE (gQ E θ p);obtain⟨sz,hsz⟩:=nE (dU S.length (gQ E θ) p)
 have hlt:lb<S.length:=by rw[←hlb];exact uE hp
 obtain⟨y,hy⟩:=nE (aQ S lb);rw[hlb,hsz,hy];have HLB:=jh (And.intro hlb (And.intro hsz hy));unfold sH;go_in;go_wp2_with fail;obtain⟨kb,hkb⟩:=nE W.heap.size;obtain⟨W1,hW1⟩:∃W1,(W.alloc (.cells #[.slice (some ⟨g,0,none⟩) S.length cap,.int .i64 S.length,.slice (some ⟨b.l,0,none⟩) z z,.slice (some ⟨b.r,0,none⟩) z z,.slice (some ⟨b.p,0,none⟩) z z,.slice (some ⟨b.h,0,none⟩) z z,.slice (some ⟨b.s,0,none⟩) z z,.pointer (some ⟨cb,0,none⟩),.pointer (some ⟨fb,0,none⟩)] 78)).drew=W1:=⟨_,rfl⟩
 have o1:Off [] W W1:=by rw[←hW1];exact((Off.refl _ _).alloc _).drew
 have r1:Row W1 kb 9 (λi=>(sH S.length cap z g b cb fb).getD i undef):=by
  rw[←hW1,←hkb];exact Row.lit W _ _ (Nat.le_refl _) lC
 have HC:∀V:World,Off [] W1 V→V.cell? ⟨kb,0,none⟩=some (.slice (some ⟨g,0,none⟩) S.length cap)∧V.cell? ⟨kb,7,none⟩=some (.pointer (some ⟨cb,0,none⟩))∧V.cell? ⟨ub,0,none⟩=some (.int .u64 u)∧V.cell? ⟨tb,0,none⟩=some (.int .i64 θ):=λV o=>by
  have r:=r1.off o sj;have oo:=o1.trans o sj;exact⟨r.c 0,r.c 7,(World.cell?_of_block (oo.block ub Gt sj)).trans hu,(World.cell?_of_block (oo.block tb htl sj)).trans ht⟩
 have HC:=jh HC;have HK:=jh (fun(V:World) (o:Off [] W1 V)=>(h.off (o1.trans o sj) hB sj));have XW:=fun{V:World} (o:Off [] W1 V)=>jh (lF (cap:=cap) (HK.out _ o).ids hp xE);have CK:=fun{V:World} (o:Off [] W1 V)=>jh (acn cb S.length p E θ V ((HK.out _ o).cl.mono (Nat.le_trans hB (Nat.le_trans o1.size o.size))) hp);have Nv:=jh (hg.off o1 sj);have fK:=jh o1;have hne1:kb≠gb:=oC hg.lt;have hgl:=hg.lt;have hkl:kb<W1.heap.size:=r1.lt;have aoG:W.heap.size<W1.heap.size:=om;unfold V8 at CK;rw[hlb,hsz] at CK;have HW1:=jh hW1;rw[hkb];have HKB:=jh hkb;have HS:=HC.out W1 (Off.refl _ _);clear h hu ht hg hlb hsz hy o1 r1 hW1 hp xE hkb;refine aj (λV=>V.cell? ⟨kb,0,none⟩=some (.slice (some ⟨g,0,none⟩) S.length cap)∧V.cell? ⟨kb,7,none⟩=some (.pointer (some ⟨cb,0,none⟩))∧V.cell? ⟨ub,0,none⟩=some (.int .u64 u)∧V.cell? ⟨tb,0,none⟩=some (.int .i64 θ)) (by kernel_rfl) ?_;rw[HW1.out];refine tC 0 ?_;refine tC 1 ?_;refine tC 2 ?_;refine tC 3 ?_;refine tC 4 ?_;refine tC 6 ?_
 try simp only[sD]
 have Ir:=jh (Off.refl [] W1);apply tw2 (fun(V:World) (nb:Nat)=>Off [] W1 V∧Row V nb 2 (λi=>(#[Value.int .i64 0,.int .i64 0]:Array Value).getD i undef)∧W1.heap.size≤nb)
 ·intro TL;refine Py [5,11] ?_;refine AllReadyH.cons rfl (λKx hK=>?_) (AllReadyH.cons rfl (λKx hK=>?_) AllReadyH.nil)
  ·go_simp;refine(XW Ir.out).out.mono ?_;rintro e wq ⟨rfl,pq,rfl⟩;obtain⟨W1p,Fu⟩:=nE (W1.drewN pq);have E5:=jh (show Off [] W1 W1p by rw[←Fu];exact Ir.out.drewN pq);rw[Fu];clear Fu;refine hK.out _ _ (HC.out _ E5.out) (λHS=>?_);clear hK;refine Py [7,11] ?_;refine AllReadyH.cons rfl (λKx hK=>?_) (AllReadyH.cons rfl (λKx hK=>?_) AllReadyH.nil)
   ·go_simp;refine(CK E5.out).out.mono ?_;rintro e aec ⟨rfl,bq⟩;have Io:=jh (E5.out.trans (Off.of_below (S:=[]) bq) sj);clear bq;refine hK.out _ _ (HC.out _ Io.out) (λHS=>?_);clear hK;refine tC 8 ?_;refine tC 9 ?_;refine tC 10 ?_
    try simp only[sD]
    refine rC 11 λKx hK=>?_;go_simp;obtain⟨nb,hnb⟩:=nE aec.heap.size;have NS:=jh (show W1.heap.size≤nb by have:=Io.out.size;omega);obtain⟨Ta,JG⟩:∃X,aec.alloc (.cells #[.int .i64 0,.int .i64 0] 91)=X:=⟨_,rfl⟩;have Kc:=jh (show Off [] W1 Ta by rw[←JG];exact Io.out.alloc _)
    have zr:Row Ta nb 2 (λi=>(#[Value.int .i64 0,.int .i64 0]:Array Value).getD i undef):=by
     rw[←JG,←hnb];exact Row.lit _ _ _ (Nat.le_refl _) lC
    have HZ:=jh zr;rw[hnb,JG];clear zr hnb JG;refine hK.out _ _ (HC.out _ Kc.out) (λHS=>?_);clear hK;exact TL Ta nb ⟨Kc.out,HZ.out,NS.out⟩
   ·go_simp;obtain⟨nb,hnb⟩:=nE W1p.heap.size;have NS:=jh (show W1.heap.size≤nb by have:=E5.out.size;omega);obtain⟨aee,JG⟩:∃X,W1p.alloc (.cells #[.int .i64 0,.int .i64 0] 91)=X:=⟨_,rfl⟩;have Ip:=jh (show Off [] W1 aee by rw[←JG];exact E5.out.alloc _)
    have zr:Row aee nb 2 (λi=>(#[Value.int .i64 0,.int .i64 0]:Array Value).getD i undef):=by
     rw[←JG,←hnb];exact Row.lit _ _ _ (Nat.le_refl _) lC
    have HZ:=jh zr;rw[hnb,JG];clear zr hnb JG;refine hK.out _ _ (HC.out _ Ip.out) (λHS=>?_);clear hK;refine rC 7 λKx hK=>?_;go_simp;refine(CK Ip.out).out.mono ?_;rintro e aed ⟨rfl,bq⟩;have Ke:=jh (Ip.out.trans (Off.of_below (S:=[]) bq) sj);have HZ:=jh (HZ.out.off (Off.of_below (S:=[]) bq) sj);clear bq;refine hK.out _ _ (HC.out _ Ke.out) (λHS=>?_);clear hK;refine tC 8 ?_;refine tC 9 ?_;refine tC 10 ?_
    try simp only[sD]
    exact wl (TL aed nb ⟨Ke.out,HZ.out,NS.out⟩)
  ·go_simp;obtain⟨nb,hnb⟩:=nE W1.heap.size;have NS:=jh (show W1.heap.size≤nb by have:=Ir.out.size;omega);obtain⟨W1a,JG⟩:∃X,W1.alloc (.cells #[.int .i64 0,.int .i64 0] 91)=X:=⟨_,rfl⟩;have Tw:=jh (show Off [] W1 W1a by rw[←JG];exact Ir.out.alloc _)
   have zr:Row W1a nb 2 (λi=>(#[Value.int .i64 0,.int .i64 0]:Array Value).getD i undef):=by
    rw[←JG,←hnb];exact Row.lit _ _ _ (Nat.le_refl _) lC
   have HZ:=jh zr;rw[hnb,JG];clear zr hnb JG;refine hK.out _ _ (HC.out _ Tw.out) (λHS=>?_);clear hK;refine rC 5 λKx hK=>?_;go_simp;refine(XW Tw.out).out.mono ?_;rintro e wq ⟨rfl,pq,rfl⟩;obtain⟨aeg,Fu⟩:=nE (W1a.drewN pq);have Iq:=jh (show Off [] W1 aeg by rw[←Fu];exact Tw.out.drewN pq);have HZ:=jh (show Row aeg nb 2 (λi=>(#[Value.int .i64 0,.int .i64 0]:Array Value).getD i undef) by rw[←Fu];exact HZ.out);rw[Fu];clear Fu;refine hK.out _ _ (HC.out _ Iq.out) (λHS=>?_);clear hK;refine rC 7 λKx hK=>?_;go_simp;refine(CK Iq.out).out.mono ?_;rintro e aef ⟨rfl,bq⟩;have Kg:=jh (Iq.out.trans (Off.of_below (S:=[]) bq) sj);have HZ:=jh (HZ.out.off (Off.of_below (S:=[]) bq) sj);clear bq;refine hK.out _ _ (HC.out _ Kg.out) (λHS=>?_);clear hK;refine tC 8 ?_;refine tC 9 ?_;refine tC 10 ?_
   try simp only[sD]
   exact wl (TL aef nb ⟨Kg.out,HZ.out,NS.out⟩)
 ·intro V nb hC;have HOV:=jh hC.1;have HZ:=jh hC.2.1;have NS:=jh hC.2.2;have HS:=HC.out _ HOV.out;clear hC;have z0:V.cell? ⟨nb,0,none⟩=some (.int .i64 0):=HZ.out.c 0;have z1:V.cell? ⟨nb,1,none⟩=some (.int .i64 0):=HZ.out.c 1;have y0:V.frozen? ⟨nb,0,none⟩=false:=HZ.out.frozen 0;have y1:V.frozen? ⟨nb,1,none⟩=false:=HZ.out.frozen 1;refine rC 12 λKx hK=>?_;go_simp;obtain⟨X,hX⟩:=nE ((V.setCell ⟨nb,0,none⟩ (.int .i64 lb)).setCell ⟨nb,1,none⟩ (.int .i64 sz))
  have zX:Row X nb 2 (λi=>(#[Value.int .i64 lb,.int .i64 sz]:Array Value).getD i undef):=by
   rw[←hX];refine((HZ.out.set 0 _).set 1 _).congr λi hi=>?_
   match i,hi with |0,_ |1,_=>rfl |k+2,e=>exact absurd e om
  have oX:Off [nb] V X:=by
   rw[←hX];exact((Off.refl [nb] V).setCell (p:=⟨nb,0,none⟩) sj _).setCell (p:=⟨nb,1,none⟩) sj _
  rw[hX];clear z0 z1 y0 y1 hX;have HnB:=NS.out
  have HCX:X.cell? ⟨kb,0,none⟩=some (.slice (some ⟨g,0,none⟩) S.length cap)∧X.cell? ⟨kb,7,none⟩=some (.pointer (some ⟨cb,0,none⟩))∧X.cell? ⟨ub,0,none⟩=some (.int .u64 u)∧X.cell? ⟨tb,0,none⟩=some (.int .i64 θ):=by
   obtain⟨q1,q2,q3,q4⟩:=HC.out _ HOV.out;have k1:=HOV.out.size;have e:∀j<W1.heap.size,X.heap[j]?=V.heap[j]?:=λj hj=>oX.block j om (by simp;omega);exact⟨(World.cell?_of_block (e kb hkl)).trans q1,(World.cell?_of_block (e kb hkl)).trans q2,(World.cell?_of_block (e ub om)).trans q3,(World.cell?_of_block (e tb om)).trans q4⟩
  refine hK.out _ _ HCX (λ_=>?_);clear hK HS;have HS:=HCX;refine tC 13 ?_
  try simp only[sD]
  refine dD ⟨rfl,?_⟩;clear HS;have HOX:=jh (show Off [] W1 X from(HOV.out.trans oX (by simp;omega)));have HX:=jh zX;clear zX oX HCX HZ;obtain⟨Y,hY⟩:=nE X.drew;have HOY:=jh (show Off [] W1 Y by rw[←hY];exact HOX.out.drew);have HYr:=jh (show Row Y nb 2 (λi=>(#[Value.int .i64 lb,.int .i64 sz]:Array Value).getD i undef) by rw[←hY];exact HX.out);have HYe:=jh hY;have HGY:=jh (Nv.out.off HOY.out sj);have HKY:=(HK.out _ HOY.out).ids;have hi0:Y.cell? ⟨g,lb,none⟩=some (.int .u64 (aQ S lb)):=HKY.cell hlt;rw[HLB.out.2.2] at hi0;have HS:Y.cell? ⟨kb,0,none⟩=some (.slice (some ⟨g,0,none⟩) S.length cap)∧Y.cell? ⟨nb,0,none⟩=some (.int .i64 lb)∧Y.cell? ⟨nb,1,none⟩=some (.int .i64 sz)∧Y.cell? ⟨g,lb,none⟩=some (.int .u64 y):=⟨(HC.out _ HOY.out).1,HYr.out.c 0,HYr.out.c 1,hi0⟩;have hbl:(0:Int)≤lb∧(lb:Int)<S.length:=om;have acZ:nb≠gb:=om;clear HKY hi0 hY;go_wp2;refine aj (λV=>V.cell? ⟨kb,0,none⟩=some (.slice (some ⟨g,0,none⟩) S.length cap)∧V.cell? ⟨nb,0,none⟩=some (.int .i64 lb)∧V.cell? ⟨nb,1,none⟩=some (.int .i64 sz)∧V.cell? ⟨g,lb,none⟩=some (.int .u64 y)) (by kernel_rfl) ?_;rw[HYe.out];refine tC 0 ?_;refine tC 1 ?_;refine tC 2 ?_;refine tC 3 ?_;refine tC 4 ?_;refine tC 5 ?_;refine tC 6 ?_;refine tC 7 ?_
  try simp only[sD]
  have c0:Y.cell? ⟨gb,0,none⟩=some x0:=HGY.out.c 0;have c1:Y.cell? ⟨gb,1,none⟩=some x1:=HGY.out.c 1;have f0:Y.frozen? ⟨gb,0,none⟩=false:=HGY.out.frozen 0;have f1:Y.frozen? ⟨gb,1,none⟩=false:=HGY.out.frozen 1;refine rC 8 λKx hK=>?_;go_simp;obtain⟨Z,hZ⟩:=nE ((Y.setCell ⟨gb,0,none⟩ (.int .u64 0)).setCell ⟨gb,1,none⟩ (.int .i64 0))
  have oZ:Off [gb] Y Z:=by
   rw[←hZ];exact((Off.refl [gb] Y).setCell (p:=⟨gb,0,none⟩) sj _).setCell (p:=⟨gb,1,none⟩) sj _
  have rZ:Row Z gb 2 (λi=>(#[Value.int .u64 0,.int .i64 0]:Array Value).getD i undef):=by
   rw[←hZ];refine((HGY.out.set 0 _).set 1 _).congr λi hi=>?_
   match i,hi with |0,_ |1,_=>rfl |k+2,e=>exact absurd e om
  rw[hZ];clear c0 c1 f0 f1 hZ
  have HSZ:∀Q,Off [gb] Y Q→Q.cell? ⟨kb,0,none⟩=some (.slice (some ⟨g,0,none⟩) S.length cap)∧Q.cell? ⟨nb,0,none⟩=some (.int .i64 lb)∧Q.cell? ⟨nb,1,none⟩=some (.int .i64 sz)∧Q.cell? ⟨g,lb,none⟩=some (.int .u64 y):=λQ o=>by
   have k1:=HOY.out.size;have k2:=((HK.out _ HOY.out).ids).row.lt;exact⟨(World.cell?_of_block (o.block kb om (by simpa using hne1))).trans HS.1,(World.cell?_of_block (o.block nb HYr.out.lt (by simpa using acZ))).trans HS.2.1,(World.cell?_of_block (o.block nb HYr.out.lt (by simpa using acZ))).trans HS.2.2.1,(World.cell?_of_block (o.block g k2 (by simpa using hgg))).trans HS.2.2.2⟩
  have HSZ:=jh HSZ;have HoZ:=jh oZ;have HrZ:=jh rZ;clear HS oZ;have HS:=HSZ.out Z HoZ.out;refine hK.out _ _ HS (λ_=>?_);clear hK;refine tC 9 ?_
  try simp only[sD]
  have c0:Z.cell? ⟨gb,0,none⟩=some (.int .u64 0):=rZ.c 0;have f0:Z.frozen? ⟨gb,0,none⟩=false:=rZ.frozen 0;refine rC 10 λKx hK=>?_;go_simp;have o2:=HoZ.out.setCell (p:=⟨gb,0,none⟩) sj (.int .u64 y);have r2:=HrZ.out.set 0 (.int .u64 y);obtain⟨Z2,hZ2⟩:=nE (Z.setCell ⟨gb,0,none⟩ (.int .u64 y));rw[hZ2] at o2 r2⊢;clear c0 f0 HS rZ hZ2;have HS:=HSZ.out Z2 o2;refine hK.out _ _ HS (λ_=>?_);clear hK;refine tC 11 ?_
  try simp only[sD]
  have c1:Z2.cell? ⟨gb,1,none⟩=some (.int .i64 0):=r2.c 1;have f1:Z2.frozen? ⟨gb,1,none⟩=false:=r2.frozen 1;refine rC 12 λKx hK=>?_;go_simp;have o3:=o2.setCell (p:=⟨gb,1,none⟩) sj (.int .i64 sz);have r3:=r2.set 1 (.int .i64 sz);obtain⟨Z3,hZ3⟩:=nE (Z2.setCell ⟨gb,1,none⟩ (.int .i64 sz));rw[hZ3] at o3 r3⊢;clear c1 f1 HS hZ3;have HS:=HSZ.out Z3 o3;refine hK.out _ _ HS (λ_=>?_);clear hK;refine dD ⟨rfl,?_⟩;have HF:=jh (show Off [gb] W Z3 from((fK.out.mono (S':=[gb]) sj).trans HOY.out sj).trans o3 sj);have HFR:=jh (r3.congr (f':=λi=>(#[Value.int .u64 y,.int .i64 sz]:Array Value).getD i undef) lC);clear HS o2 o3 r2 r3;go_wp2;go_end0;exact⟨rfl,HF.out,HFR.out⟩
end
theorem vD {f : FuncId} {fn : Func} (hf : Tryz.prog.funcs[f]? = some fn) (hname : (fn.name == "runtime.NumGoroutine") = false) (hb : fn.body.isSome = true) (args : Array Value) (w : World) : (callFunc f args).run Tryz.prog w = .ok (.enter f args) w := by
 obtain⟨c,hc⟩:=Option.isSome_iff_exists.1 hb
 have h1 : fn.name ≠ "runtime.NumGoroutine" := by simpa using hname
 simp[callFunc,hf,h1,hc]
theorem pF (args:Array Value) (w:World):(callFunc 33 args).run Tryz.prog w=.ok (.enter 33 args) w:=vD Tryz.func33 (by kernel_rfl) (by kernel_rfl) _ _
def yV (S:List Int) (E:List Ed) (θ:Int) (p:Nat):Array Value:=#[.int .u64 (aQ S (gQ E θ p)),.int .i64 (dU S.length (gQ E θ) p:Nat)]
section
variable {w:World} {G:dX} {c:Cf} {nw ex:Int} {ad:Nat} {s:St} {vb:Nat}
theorem BA {S:List Int} (sp:S.Perm (s.TU.map (aJ s.ids))) {u:Int} (h:s.has u):u∈S:=sp.mem_iff.2 (St.fu.2 h)
theorem Un (h:Ih w G c vb) (hw:qW w G c nw ad ex s) (hV:c.V≤12) (u θ:Int):
  Calls Tryz.prog 13 #[.pointer (some ⟨vb,0,none⟩),.int .u64 u,.int .i64 θ] w λe w'=>qW w' G c nw ad ex s∧Off (vb::G.bl c.E) w w'∧((¬s.has u∧e=.returned (.tuple #[.agg #[.int .u64 0,.int .i64 0],.int .i64 13]))∨
   (s.has u∧∃lo hi S K cap z g b cb fb p,oz w' G c vb (qA ad ex) s lo hi S K cap z g b cb fb∧p<S.length∧aQ S p=u∧e=.returned (.tuple #[.agg (yV S (je S s K) θ p),.int .i64 0]))):=by
 have NK:vb∉G.bl c.E:=h.2;have oJ:=jh hw.lt;have hvl:vb<w.heap.size:=h.1.lt;have HX:=jh (True.intro);obtain⟨W1,hW1⟩:∃W,((w.alloc (.cells #[.int .u64 u] 25)).alloc (.cells #[.int .i64 θ] 2)).alloc (.cells #[.int .u64 0,.int .i64 0] 48)=W:=⟨_,rfl⟩;obtain⟨ub,hub⟩:=nE w.heap.size
 have o1:Off [] w W1:=by rw[←hW1];exact(((Off.refl _ _).alloc _).alloc _).alloc _
 have rr:Row W1 (ub+2) 2 (λi=>(#[Value.int .u64 0,.int .i64 0]:Array Value).getD i undef):=by
  rw[←hW1,←hub];have:=Row.lit (n:=2) (f:=λi=>(#[Value.int .u64 0,.int .i64 0]:Array Value).getD i undef) ((w.alloc (.cells #[.int .u64 u] 25)).alloc (.cells #[.int .i64 θ] 2)) #[.int .u64 0,.int .i64 0] 48 (Nat.le_refl _) lC;simpa using this
 have ru:Row W1 ub 1 (λi=>(#[Value.int .u64 u]:Array Value).getD i undef):=by
  rw[←hW1,←hub];exact((Row.lit (n:=1) w #[.int .u64 u] 25 (Nat.le_refl _) lC).alloc _).alloc _
 have rt:Row W1 (ub+1) 1 (λi=>(#[Value.int .i64 θ]:Array Value).getD i undef):=by
  rw[←hW1,←hub];have:=Row.lit (n:=1) (f:=λi=>(#[Value.int .i64 θ]:Array Value).getD i undef) (w.alloc (.cells #[.int .u64 u] 25)) #[.int .i64 θ] 2 (Nat.le_refl _) lC;exact(by simpa using this:Row _ _ _ _).alloc _
 have h1:=h.off o1 sj;have EX:=jh (qz h1.1);have E8:=jh (rA h1.1 (hw.off o1) u);have H1:=jh h1;have fK:=jh o1;have HU:=jh ru;have HT:=jh rt;have HR:=jh rr;have HW1:=jh hW1;have Ar:=jh hub;have cu:W1.cell? ⟨ub,0,none⟩=some (.int .u64 u):=ru.c 0;clear hw o1 ru rt rr h1 hW1 h;go_in;go_wp2_with fail;rw[HW1.out]
 try rw[hub]
 clear hub;apply mO EX;rintro e wq ⟨rfl,rfl⟩;clear EX;go_wp2_with fail;apply mO E8;rintro e w2 ⟨r,rfl,hr,hw2,b2⟩;have hnu:ub∉G.bl c.E∧ub+1∉G.bl c.E∧ub+2∉G.bl c.E:=⟨λe=>oD (oJ.out _ e) Ar.out,λe=>oD (oJ.out _ e) Ar.out,λe=>oD (oJ.out _ e) Ar.out⟩;have eG:=jh ((fK.out.mono (S':=G.bl c.E) sj).trans b2.off (λj hj=>.inl hj));have Ka:=jh (HU.out.off b2.off hnu.1);have HT2:=jh (HT.out.off b2.off hnu.2.1);have HR2:=jh (HR.out.off b2.off hnu.2.2);have HN:=jh hnu;have H2:=jh (H1.out.off b2.off (λj hj e=>NK (e▸hj)));have HW2:=jh hw2;have hs2:=b2.off.size;have NJ:vb<ub:=oC Ar.out;clear hw2 b2 hnu E8 cu
 cases r with
 |false=>
  have J9:=jh (show ¬s.has u from λc=>by have:=hr.2 c;cases this);have z0:w2.cell? ⟨ub+2,0,none⟩=some (.int .u64 0):=HR2.out.c 0;have z1:w2.cell? ⟨ub+2,1,none⟩=some (.int .i64 0):=HR2.out.c 1;have y0:w2.frozen? ⟨ub+2,0,none⟩=false:=HR2.out.frozen 0;have y1:w2.frozen? ⟨ub+2,1,none⟩=false:=HR2.out.frozen 1;clear hr;go_wp2_with fail;obtain⟨W3,hW3⟩:=nE ((w2.setCell ⟨ub+2,0,none⟩ (.int .u64 0)).setCell ⟨ub+2,1,none⟩ (.int .i64 0))
  have r3:Row W3 (ub+2) 2 (λi=>(#[Value.int .u64 0,.int .i64 0]:Array Value).getD i undef):=by
   rw[←hW3];refine((HR2.out.set 0 _).set 1 _).congr λi hi=>?_
   match i,hi with |0,_ |1,_=>rfl |k+2,e=>exact absurd e om
  have o3:Off [ub+2] w2 W3:=by
   rw[←hW3];exact((Off.refl [ub+2] w2).setCell (p:=⟨ub+2,0,none⟩) sj _).setCell (p:=⟨ub+2,1,none⟩) sj _
  rw[hW3];clear z0 z1 y0 y1 hW3;have s0:W3.cell? ⟨ub+2,0,none⟩=some (.int .u64 0):=r3.c 0;have s1:W3.cell? ⟨ub+2,1,none⟩=some (.int .i64 0):=r3.c 1;refine bodyPost_ret (v:=.tuple #[.agg #[.int .u64 0,.int .i64 0],.int .i64 13]) (by simp[results,Tryz.results13,go_sem,s0,s1]) rfl ?_;refine⟨HW2.out.keep λj hj=>o3.block j (HW2.out.lt j hj) (by simp;intro e;exact HN.out.2.2 (e▸hj)),(eG.out.mono (λj hj=>.inl (List.mem_cons_of_mem _ hj))).trans o3 (λj hj=>.inr ?_),.inl ⟨J9.out,rfl⟩⟩;have:=Ar.out;simp at hj;omega
 |true=>
  have J9:=jh (hr.1 rfl);clear hr;have cf:=pF;obtain⟨gb,hgb⟩:=nE w2.heap.size;obtain⟨W3,hW3⟩:∃W,w2.alloc (.cells #[.int .u64 0,.int .i64 0] 48)=W:=⟨_,rfl⟩
  have o3:Off [] w2 W3:=by rw[←hW3];exact(Off.refl _ _).alloc _
  have rg:Row W3 gb 2 (λi=>(#[Value.int .u64 0,.int .i64 0]:Array Value).getD i undef):=by
   rw[←hW3,←hgb];exact Row.lit _ _ _ (Nat.le_refl _) lC
  have h3s:W3.heap.size=gb+1:=by rw[←hW3,←hgb];simp
  have hug:ub+2<gb:=oC HR2.out.lt;have dh:=jh o3;have HG3:=jh rg;have HW3:=jh hW3;have Fw:=jh hgb;have hw3:=HW2.out.off o3;have hlt3:=HW2.out.lt
  have Co:∀W,Off [vb,gb] W3 W→W.cell? ⟨ub,0,none⟩=some (.int .u64 u)∧W.cell? ⟨ub+1,0,none⟩=some (.int .i64 θ)∧Row W (ub+2) 2 (λi=>(#[Value.int .u64 0,.int .i64 0]:Array Value).getD i undef):=λW o=>
   ⟨((Ka.out.off o3 sj).off o (by simp;omega)).c 0,((HT2.out.off o3 sj).off o (by simp;omega)).c 0,(HR2.out.off o3 sj).off o (by simp;omega)⟩
  have HCu:=jh Co;have Cb:=jh hw3;have H3:=jh (H2.out.off o3 sj);clear o3 rg hW3 hgb hw3 Co;go_wp2_with fail;rw[HW3.out]
  try rw[Fw.out]
  clear cf;obtain⟨f,hk,ws⟩:=Cb.out;have hub:=Ar.out;have hhi:=HX.out;refine(CV H3.out hk hV pF (P:=λw'=>∃lo hi S K cap z g b cb fb p,W3.heap.size≤lo∧oz w' G c vb (qA ad ex) s lo hi S K cap z g b cb fb∧p<S.length∧aQ S p=u∧Row w' gb 2 (λi=>(#[Value.int .u64 (aQ S (gQ (je S s K) θ p)),.int .i64 (dU S.length (gQ (je S s K) θ) p:Nat)]:Array Value).getD i undef)∧Off [vb,gb] W3 w') (λW lo hi S K cap z g b cb fb oW hlo hK=>?_)).mono ?_
  ·obtain⟨u1,u2,_⟩:=HCu.out W (oW.mono sj);have hp:=kS (BA hK.sp J9.out);have hsW:=oW.size;refine(JZ (gb:=gb) hK.self hK.vg u1 u2 om om (HG3.out.off oW (by simp<;>omega)) hp.1 hp.2 (oD hK.gge hK.self.JJ)).mono ?_;rintro e w' ⟨rfl,o5,r5⟩;exact⟨rfl,lo,hi,S,K,cap,z,g,b,cb,fb,_,hlo,hK.off o5 (by simp;have:=hK.vg;omega),hp.1,hp.2,r5,(oW.mono (S':=[vb,gb]) sj).trans o5 sj⟩
  ·rintro e w4 ⟨rfl,hP⟩;obtain⟨lo,hi,S,K,cap,z,g,b,cb,fb,p,hlo,hvk,hp,xE,hrg,TQ⟩:=hP;have Tv:=jh TQ;have HRg:=jh hrg;have HVK:=jh hvk;have HPp:=jh (And.intro hp xE);have Fj:=(HCu.out w4 TQ).2.2;obtain⟨gu,hgu⟩:=nE (aQ S (gQ (je S s K) θ p));obtain⟨gs,hgs⟩:=nE (dU S.length (gQ (je S s K) θ) p);have HGU:=jh (And.intro hgu hgs);rw[hgu,hgs] at hrg;have q0:w4.cell? ⟨gb,0,none⟩=some (.int .u64 gu):=hrg.c 0;have q1:w4.cell? ⟨gb,1,none⟩=some (.int .i64 gs):=hrg.c 1;have z0:w4.cell? ⟨ub+2,0,none⟩=some (.int .u64 0):=Fj.c 0;have z1:w4.cell? ⟨ub+2,1,none⟩=some (.int .i64 0):=Fj.c 1;have y0:w4.frozen? ⟨ub+2,0,none⟩=false:=Fj.frozen 0;have y1:w4.frozen? ⟨ub+2,1,none⟩=false:=Fj.frozen 1;have HR4:=jh Fj;clear Fj hrg hvk TQ hp xE hgu hgs hk ws;go_wp2_with fail;obtain⟨W5,kZ⟩:=nE ((w4.setCell ⟨ub+2,0,none⟩ (.int .u64 gu)).setCell ⟨ub+2,1,none⟩ (.int .i64 gs))
   have r5:Row W5 (ub+2) 2 (λi=>(#[Value.int .u64 gu,.int .i64 gs]:Array Value).getD i undef):=by
    rw[←kZ];refine((HR4.out.set 0 _).set 1 _).congr λi hi=>?_
    match i,hi with |0,_ |1,_=>rfl |k+2,e=>exact absurd e om
   have o5:Off [ub+2] w4 W5:=by
    rw[←kZ];exact((Off.refl [ub+2] w4).setCell (p:=⟨ub+2,0,none⟩) sj _).setCell (p:=⟨ub+2,1,none⟩) sj _
   rw[kZ];clear q0 q1 z0 z1 y0 y1 kZ;have s0:W5.cell? ⟨ub+2,0,none⟩=some (.int .u64 gu):=r5.c 0;have s1:W5.cell? ⟨ub+2,1,none⟩=some (.int .i64 gs):=r5.c 1;refine bodyPost_ret (v:=.tuple #[.agg #[.int .u64 gu,.int .i64 gs],.int .i64 0]) (by simp[results,Tryz.results13,go_sem,s0,s1]) rfl ?_;have hs3:=dh.out.size;have hs4:=Tv.out.size;have hvx:vb≠ub+2:=om;refine⟨Cb.out.keep λj hj=>(o5.block j (Nat.lt_of_lt_of_le (Cb.out.lt j hj) hs4) (by simp;exact λe=>HN.out.2.2 (e▸hj))).trans (Tv.out.block j (Cb.out.lt j hj) (by have:=hlt3 j hj;have:=Fw.out;simp;exact⟨λe=>NK (e▸hj),om⟩)),?_,.inr ⟨J9.out,lo,hi,S,K,cap,z,g,b,cb,fb,p,HVK.out.off o5 (by simp;omega),HPp.out.1,HPp.out.2,by unfold yV;rw[HGU.out.1,HGU.out.2]⟩⟩;refine(((eG.out.mono (S':=vb::G.bl c.E) (λj hj=>.inl (List.mem_cons_of_mem _ hj))).trans dh.out sj).trans Tv.out (λj hj=>?_)).trans o5 (λj hj=>?_)
   ·simp at hj
    rcases hj with rfl |rfl
    ·exact .inl (List.mem_cons_self ..)
    ·have:=eG.out.size;have:=Fw.out;exact .inr om
   ·have:=Ar.out;simp at hj;exact .inr om
theorem II {lo hi:Nat} {S:List Int} {K:List Nat} {cap z g:Nat} {b:fF} {cb fb:Nat} (h:oz w G c vb (qA ad ex) s lo hi S K cap z g b cb fb) (hw:qW w G c nw ad ex s) (hV:c.V≤12) (u θ:Int):
  Calls Tryz.prog 13 #[.pointer (some ⟨vb,0,none⟩),.int .u64 u,.int .i64 θ] w λe w'=>qW w' G c nw ad ex s∧Off (vb::G.bl c.E) w w'∧((¬s.has u∧e=.returned (.tuple #[.agg #[.int .u64 0,.int .i64 0],.int .i64 13]))∨
   (s.has u∧∃p,oz w' G c vb (qA ad ex) s lo hi S K cap z g b cb fb∧p<S.length∧aQ S p=u∧e=.returned (.tuple #[.agg (yV S (je S s K) θ p),.int .i64 0]))):=by
 have NK:vb∉G.bl c.E:=h.Yf;have oJ:=jh hw.lt;have hvl:vb<w.heap.size:=h.row.lt;have HX:=jh (h.vg);obtain⟨W1,hW1⟩:∃W,((w.alloc (.cells #[.int .u64 u] 25)).alloc (.cells #[.int .i64 θ] 2)).alloc (.cells #[.int .u64 0,.int .i64 0] 48)=W:=⟨_,rfl⟩;obtain⟨ub,hub⟩:=nE w.heap.size
 have o1:Off [] w W1:=by rw[←hW1];exact(((Off.refl _ _).alloc _).alloc _).alloc _
 have rr:Row W1 (ub+2) 2 (λi=>(#[Value.int .u64 0,.int .i64 0]:Array Value).getD i undef):=by
  rw[←hW1,←hub];have:=Row.lit (n:=2) (f:=λi=>(#[Value.int .u64 0,.int .i64 0]:Array Value).getD i undef) ((w.alloc (.cells #[.int .u64 u] 25)).alloc (.cells #[.int .i64 θ] 2)) #[.int .u64 0,.int .i64 0] 48 (Nat.le_refl _) lC;simpa using this
 have ru:Row W1 ub 1 (λi=>(#[Value.int .u64 u]:Array Value).getD i undef):=by
  rw[←hW1,←hub];exact((Row.lit (n:=1) w #[.int .u64 u] 25 (Nat.le_refl _) lC).alloc _).alloc _
 have rt:Row W1 (ub+1) 1 (λi=>(#[Value.int .i64 θ]:Array Value).getD i undef):=by
  rw[←hW1,←hub];have:=Row.lit (n:=1) (f:=λi=>(#[Value.int .i64 θ]:Array Value).getD i undef) (w.alloc (.cells #[.int .u64 u] 25)) #[.int .i64 θ] 2 (Nat.le_refl _) lC;exact(by simpa using this:Row _ _ _ _).alloc _
 have h1:=h.off o1 sj;have EX:=jh (qz h1.row);have E8:=jh (rA h1.row (hw.off o1) u);have H1:=jh h1;have fK:=jh o1;have HU:=jh ru;have HT:=jh rt;have HR:=jh rr;have HW1:=jh hW1;have Ar:=jh hub;have cu:W1.cell? ⟨ub,0,none⟩=some (.int .u64 u):=ru.c 0;clear hw o1 ru rt rr h1 hW1 h;go_in;go_wp2_with fail;rw[HW1.out]
 try rw[hub]
 clear hub;apply mO EX;rintro e wq ⟨rfl,rfl⟩;clear EX;go_wp2_with fail;apply mO E8;rintro e w2 ⟨r,rfl,hr,hw2,b2⟩;have hnu:ub∉G.bl c.E∧ub+1∉G.bl c.E∧ub+2∉G.bl c.E:=⟨λe=>oD (oJ.out _ e) Ar.out,λe=>oD (oJ.out _ e) Ar.out,λe=>oD (oJ.out _ e) Ar.out⟩;have eG:=jh ((fK.out.mono (S':=G.bl c.E) sj).trans b2.off (λj hj=>.inl hj));have Ka:=jh (HU.out.off b2.off hnu.1);have HT2:=jh (HT.out.off b2.off hnu.2.1);have HR2:=jh (HR.out.off b2.off hnu.2.2);have HN:=jh hnu;have H2:=jh (H1.out.off b2.off (λj hj=>⟨λe=>NK (e▸hj),.inl (H1.out.JJ j hj)⟩));have HW2:=jh hw2;have hs2:=b2.off.size;have NJ:vb<ub:=oC Ar.out;clear hw2 b2 hnu E8 cu
 cases r with
 |false=>
  have J9:=jh (show ¬s.has u from λc=>by have:=hr.2 c;cases this);have z0:w2.cell? ⟨ub+2,0,none⟩=some (.int .u64 0):=HR2.out.c 0;have z1:w2.cell? ⟨ub+2,1,none⟩=some (.int .i64 0):=HR2.out.c 1;have y0:w2.frozen? ⟨ub+2,0,none⟩=false:=HR2.out.frozen 0;have y1:w2.frozen? ⟨ub+2,1,none⟩=false:=HR2.out.frozen 1;clear hr;go_wp2_with fail;obtain⟨W3,hW3⟩:=nE ((w2.setCell ⟨ub+2,0,none⟩ (.int .u64 0)).setCell ⟨ub+2,1,none⟩ (.int .i64 0))
  have r3:Row W3 (ub+2) 2 (λi=>(#[Value.int .u64 0,.int .i64 0]:Array Value).getD i undef):=by
   rw[←hW3];refine((HR2.out.set 0 _).set 1 _).congr λi hi=>?_
   match i,hi with |0,_ |1,_=>rfl |k+2,e=>exact absurd e om
  have o3:Off [ub+2] w2 W3:=by
   rw[←hW3];exact((Off.refl [ub+2] w2).setCell (p:=⟨ub+2,0,none⟩) sj _).setCell (p:=⟨ub+2,1,none⟩) sj _
  rw[hW3];clear z0 z1 y0 y1 hW3;have s0:W3.cell? ⟨ub+2,0,none⟩=some (.int .u64 0):=r3.c 0;have s1:W3.cell? ⟨ub+2,1,none⟩=some (.int .i64 0):=r3.c 1;refine bodyPost_ret (v:=.tuple #[.agg #[.int .u64 0,.int .i64 0],.int .i64 13]) (by simp[results,Tryz.results13,go_sem,s0,s1]) rfl ?_;refine⟨HW2.out.keep λj hj=>o3.block j (HW2.out.lt j hj) (by simp;intro e;exact HN.out.2.2 (e▸hj)),(eG.out.mono (λj hj=>.inl (List.mem_cons_of_mem _ hj))).trans o3 (λj hj=>.inr ?_),.inl ⟨J9.out,rfl⟩⟩;have:=Ar.out;simp at hj;omega
 |true=>
  have J9:=jh (hr.1 rfl);clear hr;have cf:=pF;obtain⟨gb,hgb⟩:=nE w2.heap.size;obtain⟨W3,hW3⟩:∃W,w2.alloc (.cells #[.int .u64 0,.int .i64 0] 48)=W:=⟨_,rfl⟩
  have o3:Off [] w2 W3:=by rw[←hW3];exact(Off.refl _ _).alloc _
  have rg:Row W3 gb 2 (λi=>(#[Value.int .u64 0,.int .i64 0]:Array Value).getD i undef):=by
   rw[←hW3,←hgb];exact Row.lit _ _ _ (Nat.le_refl _) lC
  have h3s:W3.heap.size=gb+1:=by rw[←hW3,←hgb];simp
  have hug:ub+2<gb:=oC HR2.out.lt;have dh:=jh o3;have HG3:=jh rg;have HW3:=jh hW3;have Fw:=jh hgb;have hw3:=HW2.out.off o3;have hlt3:=HW2.out.lt
  have Co:∀W,Off [vb,gb] W3 W→W.cell? ⟨ub,0,none⟩=some (.int .u64 u)∧W.cell? ⟨ub+1,0,none⟩=some (.int .i64 θ)∧Row W (ub+2) 2 (λi=>(#[Value.int .u64 0,.int .i64 0]:Array Value).getD i undef):=λW o=>
   ⟨((Ka.out.off o3 sj).off o (by simp;omega)).c 0,((HT2.out.off o3 sj).off o (by simp;omega)).c 0,(HR2.out.off o3 sj).off o (by simp;omega)⟩
  have HCu:=jh Co;have Cb:=jh hw3;have H3:=jh (H2.out.off o3 sj);clear o3 rg hW3 hgb hw3 Co;go_wp2_with fail;rw[HW3.out]
  try rw[Fw.out]
  clear cf;obtain⟨f,hk,ws⟩:=Cb.out;have hub:=Ar.out;have hhi:=HX.out;refine(NY H3.out hk hV pF (P:=λw'=>∃p,oz w' G c vb (qA ad ex) s lo hi S K cap z g b cb fb∧p<S.length∧aQ S p=u∧Row w' gb 2 (λi=>(#[Value.int .u64 (aQ S (gQ (je S s K) θ p)),.int .i64 (dU S.length (gQ (je S s K) θ) p:Nat)]:Array Value).getD i undef)∧Off [vb,gb] W3 w') (λW oW hK=>?_)).mono ?_
  ·obtain⟨u1,u2,_⟩:=HCu.out W (oW.mono sj);have hp:=kS (BA hK.sp J9.out);have hsW:=oW.size;refine(JZ (gb:=gb) hK.self hK.vg u1 u2 om om (HG3.out.off oW (by simp<;>omega)) hp.1 hp.2 (oD hK.gge hK.self.JJ)).mono ?_;rintro e w' ⟨rfl,o5,r5⟩;exact⟨rfl,_,hK.off o5 (by simp;omega),hp.1,hp.2,r5,(oW.mono (S':=[vb,gb]) sj).trans o5 sj⟩
  ·rintro e w4 ⟨rfl,hP⟩;obtain⟨p,hvk,hp,xE,hrg,TQ⟩:=hP;have Tv:=jh TQ;have HRg:=jh hrg;have HVK:=jh hvk;have HPp:=jh (And.intro hp xE);have Fj:=(HCu.out w4 TQ).2.2;obtain⟨gu,hgu⟩:=nE (aQ S (gQ (je S s K) θ p));obtain⟨gs,hgs⟩:=nE (dU S.length (gQ (je S s K) θ) p);have HGU:=jh (And.intro hgu hgs);rw[hgu,hgs] at hrg;have q0:w4.cell? ⟨gb,0,none⟩=some (.int .u64 gu):=hrg.c 0;have q1:w4.cell? ⟨gb,1,none⟩=some (.int .i64 gs):=hrg.c 1;have z0:w4.cell? ⟨ub+2,0,none⟩=some (.int .u64 0):=Fj.c 0;have z1:w4.cell? ⟨ub+2,1,none⟩=some (.int .i64 0):=Fj.c 1;have y0:w4.frozen? ⟨ub+2,0,none⟩=false:=Fj.frozen 0;have y1:w4.frozen? ⟨ub+2,1,none⟩=false:=Fj.frozen 1;have HR4:=jh Fj;clear Fj hrg hvk TQ hp xE hgu hgs hk ws;go_wp2_with fail;obtain⟨W5,kZ⟩:=nE ((w4.setCell ⟨ub+2,0,none⟩ (.int .u64 gu)).setCell ⟨ub+2,1,none⟩ (.int .i64 gs))
   have r5:Row W5 (ub+2) 2 (λi=>(#[Value.int .u64 gu,.int .i64 gs]:Array Value).getD i undef):=by
    rw[←kZ];refine((HR4.out.set 0 _).set 1 _).congr λi hi=>?_
    match i,hi with |0,_ |1,_=>rfl |k+2,e=>exact absurd e om
   have o5:Off [ub+2] w4 W5:=by
    rw[←kZ];exact((Off.refl [ub+2] w4).setCell (p:=⟨ub+2,0,none⟩) sj _).setCell (p:=⟨ub+2,1,none⟩) sj _
   rw[kZ];clear q0 q1 z0 z1 y0 y1 kZ;have s0:W5.cell? ⟨ub+2,0,none⟩=some (.int .u64 gu):=r5.c 0;have s1:W5.cell? ⟨ub+2,1,none⟩=some (.int .i64 gs):=r5.c 1;refine bodyPost_ret (v:=.tuple #[.agg #[.int .u64 gu,.int .i64 gs],.int .i64 0]) (by simp[results,Tryz.results13,go_sem,s0,s1]) rfl ?_;have hs3:=dh.out.size;have hs4:=Tv.out.size;have hvx:vb≠ub+2:=om;refine⟨Cb.out.keep λj hj=>(o5.block j (Nat.lt_of_lt_of_le (Cb.out.lt j hj) hs4) (by simp;exact λe=>HN.out.2.2 (e▸hj))).trans (Tv.out.block j (Cb.out.lt j hj) (by have:=hlt3 j hj;have:=Fw.out;simp;exact⟨λe=>NK (e▸hj),om⟩)),?_,.inr ⟨J9.out,p,HVK.out.off o5 (by simp;omega),HPp.out.1,HPp.out.2,by unfold yV;rw[HGU.out.1,HGU.out.2]⟩⟩;refine(((eG.out.mono (S':=vb::G.bl c.E) (λj hj=>.inl (List.mem_cons_of_mem _ hj))).trans dh.out sj).trans Tv.out (λj hj=>?_)).trans o5 (λj hj=>?_)
   ·simp at hj
    rcases hj with rfl |rfl
    ·exact .inl (List.mem_cons_self ..)
    ·have:=eG.out.size;have:=Fw.out;exact .inr om
   ·have:=Ar.out;simp at hj;exact .inr om
end
theorem ZV {s:St} {S:List Int} {K:List Nat} {p k:Nat} (Jh:yt S (K.map s.rc) (je S s K)) (kp:K.Perm s.U) (hU:s.U=[k]) (hk:s.rc k=⟨1,2,0,5⟩) (hp:p<S.length) (xE:aQ S p=2):
  yV S (je S s K) 5 p=#[.int .u64 1,.int .i64 2]:=by
 have hK:K=[k]:=by
  rw[hU] at kp;exact List.perm_singleton.1 kp
 obtain⟨h1,h2,_⟩:=Jh.part 5 hp;rw[xE] at h1 h2;rw[hK] at h1 h2⊢;simp only[List.map_cons,List.map_nil,hk] at h1 h2
 have e:mY (jV [⟨1,2,0,5⟩] 5) 2=[2,1]:=by decide
 rw[e] at h1 h2;unfold yV;rw[←h1,←h2]
 rfl
theorem Ww:gK 4 4 st0 1 2=0:=by
 have h:∀x,¬st0.has x:=λx hx=>by obtain⟨i,hi,_⟩:=hx;exact absurd hi (by simp[st0])
 unfold gK;rw[if_neg om,St.iw (h 1),St.iw (h 2)]
 rfl
theorem VY {E k:Nat} {s:St} (ok:jA E s) (hU:s.U=[k]) (hk:s.rc k=⟨1,2,0,5⟩):s.has 2:=(ok.Ej 2).2 ⟨k,by rw[hU];simp,.inr (by rw[hk])⟩
theorem CS (w:World):Calls Tryz.prog 6 #[] w λe w'=>e=.returned (.bool true)∧Off [] w w':=by
 have HN:=jh (CU w 10 4 4 0 (by unfold dR;omega));go_in;go_wp2_with fail;apply mO HN;clear HN;rintro e w1 (⟨rfl,_,hb⟩ |⟨c,G,rfl,hw,b1,hcw,hcE,VW⟩)
 ·exact absurd hb (by decide)
 have Rn:c.V≤12:=om;have hE4:c.E=4:=om;have Zo:c.V=4:=om;have HA:=jh (CX hw 1 2 5 0 (by decide) (by decide) (by unfold dR;omega) (by unfold dR;omega) (Nat.zero_le _));have HB1:=jh b1;have HC:=jh (And.intro hcw (And.intro hE4 (And.intro Zo Rn)));clear hw b1 hcw hcE VW hE4 Zo Rn;go_wp2_with fail;apply mO HA;clear HA;rintro e w2 ⟨er,rfl,G',nw',ad',JM,s',hw',had,hGb,b2,hlast⟩;obtain⟨rfl,k,hU,hk⟩:=hlast (by decide) (by rw[HC.out.1];decide) (by rw[HC.out.2.1,HC.out.2.2.1];exact Ww) rfl;rw[←hGb];have HW2:=jh hw';have HB2:=jh b2;have HUk:=jh (And.intro hU hk);obtain⟨f,hk2,ws⟩:=hw';have HVn:=jh (CY hk2 ws.cf);have HWs:=jh ws;clear b2 hU hk hlast hk2 ws hGb;go_wp2_with fail;apply mO HVn;clear HVn;rintro e w3 ⟨vb,rfl,o3,hvb,hvf⟩;have WV:=jh (Un hvf (HW2.out.off o3) HC.out.2.2.2 2 5);have dh:=jh o3;have HVB:=jh hvb;clear o3 hvb hvf;go_wp2_with fail;apply mO WV;clear WV;rintro e w4 ⟨hw4,o4,⟨hno,_⟩ |⟨_,lo,hi,S,K,cap,z,g,b,cb,fb,p,hvk,hp,xE,rfl⟩⟩
 ·exact absurd (VY HWs.out.wn.st HUk.out.1 HUk.out.2) hno
 rw[ZV hvk.Jh hvk.kp HUk.out.1 HUk.out.2 hp xE]
 have HF:=jh (show Off [] w w4 by
  have hn1:∀j∈G.bl c.E,w.heap.size≤j:=λj hj=>(HB1.out.fQ j hj).elim (λe=>by simp at e) id;have hn2:∀j∈G'.bl c.E,w.heap.size≤j:=λj hj=>(HB2.out.fQ j hj).elim (hn1 j) λe=>oC HB1.out.off.size;refine(((HB1.out.off.trans HB2.out.off λj hj=>.inr (hn1 j hj)).trans dh.out sj).trans o4 λj hj=>?_)
  rcases List.mem_cons.1 hj with rfl |hj
  ·exact .inr (oF HVB.out HB1.out.off.size HB2.out.off.size)
  ·exact .inr (hn2 j hj))
 clear hw4 o4 hvk hp xE;go_wp2;go_ret;exact⟨rfl,HF.out.alloc _⟩
end Go.Proofs.YtpaeogglppampaaGreatDoor
