/- Lemmas of the proof. Conditions: as each one states. -/
import Derived.Test.YtpaeogglppampaaGreatDoorQG
import Derived.Test.YtpaeogglppampaaGreatDoorQK
set_option maxRecDepth 100000
set_option maxHeartbeats 16000000
namespace Go.Proofs.YtpaeogglppampaaGreatDoor
open Go.RowKit
structure RmI (w0:World) (E V N:Nat) (t:Int) (s:St) (xs:List Nat) (v:Value) (M:Nat) (b i:Nat) (F':bD) (s':St) (wr:World):Prop where
 st:∃bg inc,lq wr F' E V N bg s' inc
 rc:s'.rc=s.rc∧s'.ex=s.ex
 U:s'.U=(xs.take i).foldl List.erase s.U
 dr:vQ s.ex t s'.U (xs.drop i)
 b:F'.b=b
 bo:Bo [] F'.bl w0 wr
 row:iG M v xs wr
 ap:∀g,v.ownBlock=some g→g∉F'.bl
theorem zV {r:Nat}:∀(ys:List Nat) (V:List Nat),r∈ys.foldl List.erase V→r∈V
 |[],_,h=>h
 |_::ys,_,h=>List.mem_of_mem_erase (zV ys _ h)
section
variable {w:World} {G:dX} {c:Cf} {nw ex:Int} {ad:Nat} {s:St}
theorem Kn (h:qW w G c nw ad ex s) (u v x t:Int):
  Calls Tryz.prog 17 #[.pointer (some ⟨G.b,0,none⟩),.agg #[.int .u64 u,.int .u64 v,.int .i64 x,.int .i64 t]] w λe w'=>∃er,e=.returned (.int .i64 er)∧Off [] w w'∧(er=0→∀s',TkR s s' t→jA c.E s'→gK c.E c.V s' u v=0)∧(gK c.E c.V s u v=0→er=0):=by
 obtain⟨f,k,ws⟩:=h;obtain⟨B,hB⟩:=nE w.heap.size;obtain⟨W0,hW0⟩:∃W,w.alloc (.cells #[.int .u64 u,.int .u64 v,.int .i64 x,.int .i64 t] 33)=W:=⟨_,rfl⟩
 have o0:Off [] w W0:=by rw[←hW0];exact(Off.refl _ _).alloc _
 have r0:Row W0 B 4 (λi=>(#[Value.int .u64 u,.int .u64 v,.int .i64 x,.int .i64 t]:Array Value).getD i undef):=by
  rw[←hW0,←hB];exact Row.lit _ _ _ (Nat.le_refl _) lC
 have K:=jh k;have WS:=jh ws;have O0:=jh o0;have R0:=jh r0;have HW0:=jh hW0;have HB:=jh hB;clear k ws o0 r0 hW0 hB;go_in;go_wp2_with fail;rw[HW0.out,HB.out];have k0:=K.out.off O0.out;obtain⟨N,bg,inc,st0⟩:=k0.st;have HC:=jh (qE (st0.off (w':=W0.drew) (Off.refl _ _).drew) u v t x);have vF:W0.drew.cell? ⟨G.b,5,none⟩=some (.pointer (some ⟨G.sf.b,0,none⟩))∧W0.drew.cell? ⟨B,0,none⟩=some (.int .u64 u)∧W0.drew.cell? ⟨B,1,none⟩=some (.int .u64 v)∧W0.drew.cell? ⟨B,2,none⟩=some (.int .i64 x)∧W0.drew.cell? ⟨B,3,none⟩=some (.int .i64 t):=⟨k0.c5,R0.out.c 0,R0.out.c 1,R0.out.c 2,R0.out.c 3⟩;have HS:=vF;clear k0 st0 vF;refine aj (λw'=>w'.cell? ⟨G.b,5,none⟩=some (.pointer (some ⟨G.sf.b,0,none⟩))∧w'.cell? ⟨B,0,none⟩=some (.int .u64 u)∧w'.cell? ⟨B,1,none⟩=some (.int .u64 v)∧w'.cell? ⟨B,2,none⟩=some (.int .i64 x)∧w'.cell? ⟨B,3,none⟩=some (.int .i64 t)) (by kernel_rfl) ?_;refine tC 0 ?_;refine tC 1 ?_;refine tC 2 ?_;refine tC 3 ?_;refine tC 4 ?_
 try simp only[sD]
 refine rC 5 λK2 hK=>?_;go_simp;apply mO HC;rintro e W1 ⟨rfl,o1⟩;dsimp only
 have o01:Off [] w W1:=(O0.out.drew).trans o1 λj hj=>by cases hj
 have o1':Off [] W0 W1:=(Off.refl _ _).drew.trans o1 λj hj=>by cases hj
 have k1:=K.out.off o01;have r1:=R0.out.of_block (o1'.block B R0.out.lt sj);refine hK.out _ _ ⟨k1.c5,r1.c 0,r1.c 1,r1.c 2,r1.c 3⟩ (λHS=>?_);clear hK HC o1 o1';refine tC 6 ?_
 try simp only[sD]
 refine dD ⟨rfl,?_⟩;clear HS;obtain⟨ck,hck⟩:=nE (gK c.E c.V s u v);rw[hck];have HCK:=jh hck
 by_cases hz:ck=0
 ·subst hz;have HO:=jh o01;clear hck k1 r1 o01;go_wp2;go_ret;exact⟨0,rfl,HO.out,λ_ s' h1 h2=>h1.mono WS.out.wn.st h2 HCK.out,λ_=>rfl⟩
 ·have d0:((ck:Int)==0)=false:=by simp;exact hz
  have HZ:=jh hz;obtain⟨L,sc,hL⟩:=k1.sc;have c6:=k1.c6;have HNx:=jh (Mx sc (oC WS.out.cf.E));have O1:=jh o01;have R1:=jh r1;have HL:=jh hL;have HBk:=jh (And.intro (K.out.lt G.b (dX.ak (i:=0) om (by simp[dX.aP]))) R1.out.lt);clear hck hz k1 r1 o01 sc hL;go_wp2_with fail;apply mO HNx
  cases L with
  |nil=>
   rintro e W2 ⟨rfl,o2⟩;unfold DR;have HO:=jh (O1.out.trans o2 λj hj=>by cases hj);clear o2 HNx c6;go_wp2;go_ret;exact⟨ck,rfl,HO.out.alloc _,λh=>absurd h HZ.out,λh=>absurd (HCK.out.symm.trans h) HZ.out⟩
  |cons y T=>
   rintro e W2 ⟨rfl,o2⟩;unfold DR
   have o02:Off [] w W2:=O1.out.trans o2 λj hj=>by cases hj
   have r2:=R1.out.of_block (o2.block B R1.out.lt sj);obtain⟨W3,hW3⟩:∃W,W2.alloc (.cells #[.int .i64 y.i,.int .i64 y.k] 110)=W:=⟨_,rfl⟩
   have o3:Off [] w W3:=by rw[←hW3];exact o02.alloc _
   have r3:Row W3 B 4 (λi=>(#[Value.int .u64 u,.int .u64 v,.int .i64 x,.int .i64 t]:Array Value).getD i undef):=by rw[←hW3];exact r2.alloc _
   have q3:=r3.c 3;have k3:=K.out.off o3;have c5:=k3.c5;obtain⟨N3,bg3,Y2,Uu⟩:=k3.st;have HSC:=jh (K6 Uu);have O3:=jh o3;have R3:=jh r3;have HW3:=jh hW3;rw[←hW3] at q3 c5;have q3':(W2.alloc (.cells #[.int .i64 y.i,.int .i64 y.k] 110)).cell? ⟨B,3,none⟩=some (.int .i64 t):=q3;clear o2 o02 r2 o3 r3 hW3 k3 Uu q3 HNx c6
   by_cases hgt:t<y.k
   ·have e1:decide (t<y.k)=true:=dP hgt;have e2:decide (y.k>t)=true:=dP hgt;clear hgt;go_wp2;go_ret;exact⟨ck,rfl,by rw[HW3.out];exact O3.out,λh=>absurd h HZ.out,λh=>absurd (HCK.out.symm.trans h) HZ.out⟩
   ·have e1:decide (t<y.k)=false:=dF hgt;have e2:decide (y.k>t)=false:=dF hgt;clear hgt;go_wp2_with fail;rw[HW3.out];apply mO HSC;rintro e W4 ⟨F4,rfl,Xe,b4⟩;clear HSC c5 q3' e1 e2
    have o4:Off [] w W4:=O3.out.trans b4.off λj hj=>by cases hj
    have k4:=K.out.off o4;have r4:=R3.out.of_block (b4.off.block B R3.out.lt sj);obtain⟨L4,sc4,hL4⟩:=k4.sc;have HEC:=jh (ME (sc4.keep (w':=W4.drew) λ_ _=>rfl) (oC WS.out.cf.E));have HS:W4.drew.cell? ⟨G.b,6,none⟩=some (.pointer (some ⟨G.eb,0,none⟩))∧W4.drew.cell? ⟨B,3,none⟩=some (.int .i64 t):=⟨k4.c6,r4.c 3⟩;have O4:=jh o4;have R4:=jh r4;have ST4:=jh Xe;have B4:=jh (show Bo [] F4.bl w W4 from⟨o4,λj hj=>(b4.fQ j hj).imp id λe=>Nat.le_trans O3.out.size e⟩);have oK:=jh hL4;have WW:=jh (show B∉F4.bl from λc1=>(b4.fQ B c1).elim (λe=>by cases e) λe=>oC R3.out.lt);clear b4 o4 k4 r4 sc4 Xe hL4;go_wp2;refine aj (λw'=>w'.cell? ⟨G.b,6,none⟩=some (.pointer (some ⟨G.eb,0,none⟩))∧w'.cell? ⟨B,3,none⟩=some (.int .i64 t)) (by kernel_rfl) ?_;refine tC 0 ?_;refine tC 1 ?_;refine tC 2 ?_;refine tC 3 ?_;refine tC 5 ?_;refine tC 6 ?_;refine tC 9 ?_
    try simp only[sD]
    refine rC 4 λK2 hK=>?_;go_simp;apply mO HEC;rintro e W5 ⟨b5,h5,rfl,sc5,Ub⟩;dsimp only
    have DF:Off [] W4 W5:=(Off.refl _ _).drew.trans Ub.off λj hj=>by cases hj
    have o5:Off [] w W5:=O4.out.trans DF λj hj=>by cases hj
    have k5:=K.out.off o5;have r5:=R4.out.of_block (DF.block B R4.out.lt sj);refine hK.out _ _ ⟨k5.c6,r5.c 3⟩ (λHS=>?_);have HDU:=jh (ED (t:=t) sc5 (oC WS.out.cf.E) WS.out.wn.st.und oK.out);have ST5:=jh (ST4.out.off DF);have B5:=jh (B4.out.trans (Bo.aX DF));have R5:=jh r5;have O5:=jh o5;have HN5:=jh (λj (hj:j∈b5::h5.bl c.E)=>(show w.heap.size≤j from(Ub.fQ j hj).elim (λe=>by cases e) λe=>Nat.le_trans O4.out.size e));have HM5:=jh (λj (hj:j∈b5::h5.bl c.E)=>(show W4.heap.size≤j from(Ub.fQ j hj).elim (λe=>by cases e) λe=>e));clear hK HEC DF o5 k5 r5 sc5 Ub oK;refine rC 7 λK2 hK=>?_;go_simp;apply mO HDU;rintro e W6 ⟨vv,xs,h6,L6,rfl,hO6,_,hdr,_,_,pG⟩;dsimp only;have o56:Off [] w W6:=O5.out.trans pG.off λj hj=>.inr (HN5.out j hj);have k6:=K.out.off o56;have hF6:∀j∈F4.bl,W6.heap[j]?=W5.heap[j]?:=λj hj=>pG.off.block j (ST5.out.lt j hj) λc1=>oD (HM5.out j c1) (ST4.out.lt j hj);have r6:=R5.out.of_block (pG.off.block B R5.out.lt λc1=>oD (HM5.out B c1) R4.out.lt);refine hK.out _ _ ⟨k6.c6,r6.c 3⟩ (λHS=>?_)
    have hxl:xs.length≤16384:=by
     have h1:=hdr.len;have h2:=jT WS.out.wn.st.und WS.out.wn.st.ult;have:=WS.out.cf.E;omega
    obtain⟨a,cap,A0,rfl,_⟩:=jf hO6
    have I0:RmI w c.E c.V N3 t s xs (.slice a xs.length cap) W5.heap.size F4.b 0 F4 s W6:=⟨⟨bg3,Y2,ST5.out.keep hF6⟩,⟨rfl,rfl⟩,rfl,hdr,rfl,⟨o56,B5.out.fQ⟩,hO6,λg hg c1=>by
     have h1:=fP (show W6.ownsRow W5.heap.size _ 1 _ xs.length _ from hO6) hg
     have:=ST5.out.lt g c1;omega⟩
    obtain⟨n,hn⟩:=nE xs.length;have HI0:=jh I0;have HN:=jh hn;have R6:=jh r6;have HDR:=jh hdr;rw[hn] at hxl HI0⊢;clear hK HDU hO6 hdr pG o56 k6 hF6 r6 I0 hn ST5 B5 R5 O5 HN5 HM5;refine tC 8 ?_
    try simp only[sD]
    refine dD ⟨rfl,?_⟩;clear HS;go_wp2
    go_loopg [51] n (λQ iv wr=>∃(i:Nat) (F':bD) (s':St),Q+i=n∧iv=.int .i64 i∧Hid (RmI w c.E c.V N3 t s xs (.slice a n cap) W5.heap.size F4.b i F' s' wr)∧Hid (Row wr B 4 (λi=>(#[Value.int .u64 u,.int .u64 v,.int .i64 x,.int .i64 t]:Array Value).getD i undef))∧Hid (B∉F'.bl))
    case atStart=>exact⟨0,_,_,rfl,rfl,HI0,R6,WW⟩
    case round=>
     clear HI0 R6 WW;obtain⟨i,F',s',hQ,rfl,HI,WR,WW⟩:=hrel
     by_cases hlt:i<n
     ·have d1:decide ((i:Int)<n)=true:=dP om;have d2:decide (i<n)=true:=dP hlt;obtain⟨j,hj⟩:=nE (i+1);have wj:(i:Int)+1=(j:Int):=om;have bi:(0:Int)≤i∧(i:Int)<n∧(n:Int)≤16384∧(0:Int)≤j∧(j:Int)≤16384:=om
      have hil:i<xs.length:=by rw[HN.out];exact hlt
      obtain⟨z,hx⟩:=nE (xs.getD i 0);have hd:=HI.out.dr;rw[Aa hil,hx] at hd;obtain⟨a',c',A',e,hrd⟩:=jf HI.out.row;have ix:=hrd.ix i hil;have cl:=hrd.cell i hil 0 om;rw[HN.out] at e ix
      obtain⟨rfl,rfl⟩:a=a'∧cap=c':=by cases e;exact⟨rfl,rfl⟩
      rw[add_zero] at cl
      have cl':wr.cell? (A' i)=some (.int .i64 z):=by rw[cl];unfold nums;rw[lM,hx]
      obtain⟨bg6,ahA,st6⟩:=HI.out.st
      have HR:=jh (Dh st6 hd.1.1 λr hr=>by
       rw[HI.out.U] at hr;have:=WS.out.wf r (zV _ _ hr);rw[HI.out.rc.1]
       exact⟨this.1,this.2.1⟩)
      rw[HI.out.b] at HR;have HX:=jh (And.intro hd (And.intro hil hx));have HJ:=jh hj;have HQ:=jh hQ;clear e hrd cl hd hil hx hj hQ hlt st6;go_wp2_with fail;apply mO HR;rintro e w7 ⟨⟨v7,rfl⟩,F7,s7,aob,st7,hb7,BR,rr⟩
      have I7:RmI w c.E c.V N3 t s xs (.slice a n cap) W5.heap.size F4.b j F7 s7 w7:=by
       have hU7:s7.U=s'.U.erase z:=rr.U;have ac6:∀g,(Value.slice a n cap).ownBlock=some g→g<wr.heap.size:=λg hg=>aN (show wr.ownsRow W5.heap.size _ 1 _ xs.length _ from HI.out.row) hg;refine⟨⟨_,_,st7⟩,⟨rr.rc.1.trans HI.out.rc.1,rr.rc.2.trans HI.out.rc.2⟩,?_,?_,hb7,HI.out.bo.trans BR,aG (show wr.ownsRow W5.heap.size _ 1 _ xs.length _ from HI.out.row) λg hg=>BR.off.block g (ac6 g hg) (HI.out.ap g hg),λg hg c1=>?_⟩
       ·rw[←HJ.out,zu HX.out.2.1,HX.out.2.2,←HI.out.U];exact hU7
       ·rw[hU7,←HJ.out];exact HX.out.1.2
       ·rcases BR.fQ g c1 with e |e
        ·exact HI.out.ap g hg e
        ·have:=ac6 g hg;omega
      have HI7:=jh I7;have ajp:=jh (WR.out.of_block (BR.off.block B WR.out.lt WW.out));have aj5:=jh (show B∉F7.bl from λc1=>(BR.fQ B c1).elim WW.out λe=>oC WR.out.lt);clear st7 hb7 BR rr I7 HR ix cl';go_wp2
      go_roundg (n-j)
      case measure=>have:=HJ.out;have:=HQ.out;omega
      case rel=>exact⟨j,F7,s7,oC HJ.out,rfl,HI7,ajp,aj5⟩
     ·have d1:decide ((i:Int)<n)=false:=dF om;have d2:decide (i<n)=false:=dF hlt;obtain rfl:i=n:=om;have ht:xs.take i=xs:=List.take_of_length_le (by rw[HN.out];exact Nat.le_refl _);have hU:=HI.out.U;rw[ht] at hU;obtain⟨bg6,ahA,st6⟩:=HI.out.st;have HC:=jh (qE st6 u v t x);rw[HI.out.b] at HC;have HU:=jh (And.intro hU st6.ok);have b0:=WR.out.c 0;have b1:=WR.out.c 1;have b2:=WR.out.c 2;have b3:=WR.out.c 3;have b0':wr.cell? ⟨B,0,none⟩=some (.int .u64 u):=b0;have b1':wr.cell? ⟨B,1,none⟩=some (.int .u64 v):=b1;have b2':wr.cell? ⟨B,2,none⟩=some (.int .i64 x):=b2;have b3':wr.cell? ⟨B,3,none⟩=some (.int .i64 t):=b3;clear hlt ht hU st6 b0 b1 b2 b3;go_wp2_with fail;apply mO HC;rintro e w8 ⟨rfl,o8⟩;have HO8:=jh (HI.out.bo.off.trans o8 λj hj=>by cases hj);clear o8 b0' b1' b2' b3' HC;go_wp2;go_ret;refine⟨_,rfl,HO8.out,λh s2 h1 h2=>?_,λh=>absurd (HCK.out.symm.trans h) HZ.out⟩;rw[←h];exact(Na HU.out.2 h2 (λk=>by rw[HU.out.1,HDR.out.mem WS.out.wn.st.und,h1.U]) (h1.rc.trans HI.out.rc.1.symm)).symm
end
section
variable {w:World} {G:dX} {c:Cf} {nw ex:Int} {ad:Nat} {s:St}
theorem CW (h:qW w G c nw ad ex s) (u v x t:Int) (hc:gK c.E c.V s u v=0) (hf:t+c.win≤9223372036854775807) (hu:(Lit.int .u64 u).wf=true) (hv:(Lit.int .u64 v).wf=true) (hx:dR x) (ht:dR t) (had:ad≤1000000):
  Calls Tryz.prog 18 #[.pointer (some ⟨G.b,0,none⟩),.agg #[.int .u64 u,.int .u64 v,.int .i64 x,.int .i64 t]] w λe w'=>e=.returned (.tuple #[])∧∃G' s' k,qW w' G' c nw (ad+1) ex s'∧G'.b=G.b∧Bo (G.bl c.E) (G'.bl c.E) w w'∧Ti s s' k ⟨u,v,t,x⟩ (t+c.win):=by
 obtain⟨f,k0,ws⟩:=h;obtain⟨B,hB⟩:=nE w.heap.size;obtain⟨W0,hW0⟩:∃W,w.alloc (.cells #[.int .u64 u,.int .u64 v,.int .i64 x,.int .i64 t] 33)=W:=⟨_,rfl⟩
 have o0:Off [] w W0:=by rw[←hW0];exact(Off.refl _ _).alloc _
 have r0:Row W0 B 4 (λi=>(#[Value.int .u64 u,.int .u64 v,.int .i64 x,.int .i64 t]:Array Value).getD i undef):=by
  rw[←hW0,←hB];exact Row.lit _ _ _ (Nat.le_refl _) lC
 obtain⟨X,hX⟩:=nE (t+c.win);rw[hX] at hf⊢;have KW:=jh k0;have WS:=jh ws;have O0:=jh o0;have R0:=jh r0;have HW0:=jh hW0;have HB:=jh hB;have HC:=jh hc;have HF:=jh hf;have HX:=jh hX;have HT:=jh (And.intro hx ht);have HA:=jh had;have XQ:=jh (And.intro hu hv);clear k0 ws o0 r0 hW0 hB hc hf hX hx ht had hu hv;go_in;go_wp2_with fail;rw[HW0.out,HB.out];have k1:=KW.out.off O0.out;have HE:=jh (MX (w:=W0.drew) k1.ck WS.out.cf.win HT.out.2 (by rw[HX.out];exact HF.out));rw[HX.out] at HE;have HS:W0.drew.cell? ⟨G.b,4,none⟩=some (.pointer (some ⟨G.cb,0,none⟩))∧W0.drew.cell? ⟨B,3,none⟩=some (.int .i64 t):=⟨k1.c4,R0.out.c 3⟩;have K1:=jh k1;clear k1;refine aj (λw'=>w'.cell? ⟨G.b,4,none⟩=some (.pointer (some ⟨G.cb,0,none⟩))∧w'.cell? ⟨B,3,none⟩=some (.int .i64 t)) (by kernel_rfl) ?_;refine tC 0 ?_;refine tC 1 ?_;refine tC 2 ?_;refine tC 3 ?_;refine tC 4 ?_;refine tC 5 ?_
 try simp only[sD]
 refine rC 6 λK2 hK=>?_;go_simp;apply mO HE;rintro e w' ⟨rfl,rfl⟩;dsimp only;refine hK.out _ _ HS (λHS=>?_);clear hK HE;refine tC 7 ?_;refine tC 8 ?_;refine tC 9 ?_;refine tC 10 ?_;refine tC 11 ?_
 try simp only[sD]
 refine dD ⟨rfl,?_⟩;clear HS;obtain⟨W1,hW1⟩:=nE W0.drew;rw[hW1];have O1:Hid (Off [] w W1):=jh (by rw[←hW1];exact O0.out.drew);have R1:Hid (Row W1 B 4 (λi=>(#[Value.int .u64 u,.int .u64 v,.int .i64 x,.int .i64 t]:Array Value).getD i undef)):=jh (by rw[←hW1];exact R0.out);have K1:=jh (KW.out.off O1.out);clear hW1;obtain⟨N1,bg1,Ei,st1⟩:=K1.out.st;have HI:=jh (Di (ex:=X) (st1.off (w':=W1.drew) (Off.refl _ _).drew) u v x t HC.out XQ.out.1 XQ.out.2);have HS:W1.drew.cell? ⟨G.b,5,none⟩=some (.pointer (some ⟨G.sf.b,0,none⟩))∧W1.drew.cell? ⟨B,0,none⟩=some (.int .u64 u)∧W1.drew.cell? ⟨B,1,none⟩=some (.int .u64 v)∧W1.drew.cell? ⟨B,2,none⟩=some (.int .i64 x)∧W1.drew.cell? ⟨B,3,none⟩=some (.int .i64 t):=⟨K1.out.c5,R1.out.c 0,R1.out.c 1,R1.out.c 2,R1.out.c 3⟩;clear st1;go_wp2;refine aj (λw'=>w'.cell? ⟨G.b,5,none⟩=some (.pointer (some ⟨G.sf.b,0,none⟩))∧w'.cell? ⟨B,0,none⟩=some (.int .u64 u)∧w'.cell? ⟨B,1,none⟩=some (.int .u64 v)∧w'.cell? ⟨B,2,none⟩=some (.int .i64 x)∧w'.cell? ⟨B,3,none⟩=some (.int .i64 t)) (by kernel_rfl) ?_;refine tC 0 ?_;refine tC 1 ?_;refine tC 2 ?_;refine tC 3 ?_;refine tC 4 ?_;refine tC 5 ?_
 try simp only[sD]
 apply tw6 (fun(W4:World) (D k:Nat) (sq:Int) (F2:bD) (s2:St)=>fM W4 ({ G with sf:=F2 }:dX) c nw ad ex s2 s.ex s.U f∧Row W4 B 4 (λi=>(#[Value.int .u64 u,.int .u64 v,.int .i64 x,.int .i64 t]:Array Value).getD i undef)∧Row W4 D 7 (λi=>(#[Value.int .i64 k,.int .u64 sq,.int .u64 u,.int .u64 v,.int .i64 x,.int .i64 t,.int .i64 X]:Array Value).getD i undef)∧Bo (G.bl c.E) (({ G with sf:=F2 }:dX).bl c.E) w W4∧D∉({ G with sf:=F2 }:dX).bl c.E∧Ti s s2 k ⟨u,v,t,x⟩ X∧F2.b=G.sf.b∧jA c.E s2)
 ·intro TL;refine Py [6,10] ?_;refine AllReadyH.cons rfl (λK2 hK=>?_) (AllReadyH.cons rfl (λK2 hK=>?_) AllReadyH.nil)
  ·go_simp;apply mO HI;rintro e W2 ⟨k,sq,F2,bg2,s2,Y3,rfl,st2,hb2,CF,ins⟩;dsimp only;obtain⟨k2,b2⟩:=(K1.out.off (w':=W1.drew) (Off.refl _ _).drew).setSt ⟨N1,bg2,Y3,st2⟩ hb2 CF;have JI:B∉G.bl c.E:=λc1=>oD (KW.out.lt B c1) HB.out;have b02:Bo (G.bl c.E) (({ G with sf:=F2 }:dX).bl c.E) w W2:=(Bo.aX O1.out).trans ((Bo.aX ((Off.refl _ _).drew)).trans b2);have r2:=(show Row W1.drew B 4 _ from R1.out).of_block (b2.off.block B R1.out.lt JI)
   have e5:W2.cell? ⟨G.b,5,none⟩=some (.pointer (some ⟨G.sf.b,0,none⟩)):=by rw[←hb2];exact k2.c5
   refine hK.out _ _ ⟨e5,r2.c 0,r2.c 1,r2.c 2,r2.c 3⟩ (λHS=>?_)
   have adM:B∉({ G with sf:=F2 }:dX).bl c.E:=λc1=>(b2.fQ B c1).elim JI λe=>by have:=R1.out.lt;have e':W1.heap.size≤B:=e;omega
   have KW2:=jh k2;have BO2:=jh b02;have R2:=jh r2;have tX:=jh ins;have HB2:=jh hb2;have HOK:=jh st2.ok;have HBN:=jh (And.intro JI adM);clear hK st2 hb2 CF ins k2 b2 JI b02 r2 e5 adM;refine tC 7 ?_;refine tC 8 ?_;refine tC 9 ?_
   try simp only[sD]
   refine rC 10 λK2 hK=>?_;go_simp;obtain⟨D,hD⟩:=nE W2.heap.size;obtain⟨W3,hW3⟩:∃W,W2.alloc (.cells #[.int .i64 0,.int .u64 0,.int .u64 0,.int .u64 0,.int .i64 0,.int .i64 0,.int .i64 0] 52)=W:=⟨_,rfl⟩
   have o3:Off [] W2 W3:=by rw[←hW3];exact(Off.refl _ _).alloc _
   have z3:Row W3 D 7 (λi=>(#[Value.int .i64 0,.int .u64 0,.int .u64 0,.int .u64 0,.int .i64 0,.int .i64 0,.int .i64 0]:Array Value).getD i undef):=by
    rw[←hW3,←hD];exact Row.lit _ _ _ (Nat.le_refl _) lC
   have r3:=R2.out.of_block (o3.block B R2.out.lt sj);have k3:=KW2.out.off o3
   have e5:W3.cell? ⟨G.b,5,none⟩=some (.pointer (some ⟨G.sf.b,0,none⟩)):=by rw[←HB2.out];exact k3.c5
   rw[hW3,hD];refine hK.out _ _ ⟨e5,r3.c 0,r3.c 1,r3.c 2,r3.c 3⟩ (λHS=>?_);have O3:=jh o3;have R3:=jh r3;clear hK o3 hW3 r3 k3 e5;refine rC 11 λK2 hK=>?_;have q0:W3.cell? ⟨D,0,none⟩=some (.int .i64 0):=z3.c 0;have q1:W3.cell? ⟨D,1,none⟩=some (.int .u64 0):=z3.c 1;have q2:W3.cell? ⟨D,2,none⟩=some (.int .u64 0):=z3.c 2;have q3:W3.cell? ⟨D,3,none⟩=some (.int .u64 0):=z3.c 3;have q4:W3.cell? ⟨D,4,none⟩=some (.int .i64 0):=z3.c 4;have q5:W3.cell? ⟨D,5,none⟩=some (.int .i64 0):=z3.c 5;have q6:W3.cell? ⟨D,6,none⟩=some (.int .i64 0):=z3.c 6;have g0:=z3.frozen 0;have g1:=z3.frozen 1;have g2:=z3.frozen 2;have g3:=z3.frozen 3;have g4:=z3.frozen 4;have g5:=z3.frozen 5;have g6:=z3.frozen 6;go_simp;obtain⟨W4,gT⟩:=nE ((((((((W3.setCell ⟨D,0,none⟩ (.int .i64 k)).setCell ⟨D,1,none⟩ (.int .u64 sq)).setCell ⟨D,2,none⟩ (.int .u64 u)).setCell ⟨D,3,none⟩ (.int .u64 v)).setCell ⟨D,4,none⟩ (.int .i64 x)).setCell ⟨D,5,none⟩ (.int .i64 t)).setCell ⟨D,6,none⟩ (.int .i64 X)));rw[gT]
   have z4:Row W4 D 7 (λi=>(#[Value.int .i64 k,.int .u64 sq,.int .u64 u,.int .u64 v,.int .i64 x,.int .i64 t,.int .i64 X]:Array Value).getD i undef):=by
    rw[←gT];refine(((((((z3.set 0 _).set 1 _).set 2 _).set 3 _).set 4 _).set 5 _).set 6 _).congr λi hi=>?_
    match i,hi with
    |0,_ |1,_ |2,_ |3,_ |4,_ |5,_ |6,_=>rfl
    |k+7,e=>exact absurd e om
   have hDz:=O3.out.size
   have o4:Off [] W2 W4:=by
    rw[←gT];exact((((((O3.out.bZ (p:=⟨D,0,none⟩) (Nat.le_of_eq hD) _).bZ (p:=⟨D,1,none⟩) (Nat.le_of_eq hD) _).bZ (p:=⟨D,2,none⟩) (Nat.le_of_eq hD) _).bZ (p:=⟨D,3,none⟩) (Nat.le_of_eq hD) _).bZ (p:=⟨D,4,none⟩) (Nat.le_of_eq hD) _).bZ (p:=⟨D,5,none⟩) (Nat.le_of_eq hD) _).bZ (p:=⟨D,6,none⟩) (Nat.le_of_eq hD) _
   have r4:=R2.out.of_block (o4.block B R2.out.lt sj);have k4:=KW2.out.off o4
   have e5:W4.cell? ⟨G.b,5,none⟩=some (.pointer (some ⟨G.sf.b,0,none⟩)):=by rw[←HB2.out];exact k4.c5
   refine hK.out _ _ ⟨e5,r4.c 0,r4.c 1,r4.c 2,r4.c 3⟩ (λHS=>?_);have hDn:D∉({ G with sf:=F2 }:dX).bl c.E:=λc1=>oC (KW2.out.lt D c1);have XL:=jh k4;have R4:=jh r4;have Z4:=jh z4;have BO4:=jh (BO2.out.trans (Bo.aX o4));have HDN:=jh hDn;clear hK o4 gT r4 k4 z4 e5 hDn q0 q1 q2 q3 q4 q5 q6 g0 g1 g2 g3 g4 g5 g6 z3 hD hDz O3 R3 KW2 R2 BO2;refine tC 12 ?_
   try simp only[sD]
   exact TL W4 D k sq F2 s2 ⟨XL.out,R4.out,Z4.out,BO4.out,HDN.out,tX.out,HB2.out,HOK.out⟩
  ·go_simp;obtain⟨D,hD⟩:=nE W1.heap.size;obtain⟨W2,hW2⟩:∃W,(W1.alloc (.cells #[.int .i64 0,.int .u64 0,.int .u64 0,.int .u64 0,.int .i64 0,.int .i64 0,.int .i64 0] 52)).drew=W:=⟨_,rfl⟩;have adt:W1.drew.alloc (.cells #[.int .i64 0,.int .u64 0,.int .u64 0,.int .u64 0,.int .i64 0,.int .i64 0,.int .i64 0] 52)=W2:=hW2
   have o2:Off [] W1 W2:=by rw[←hW2];exact((Off.refl _ _).alloc _).drew
   have z2:Row W2 D 7 (λi=>(#[Value.int .i64 0,.int .u64 0,.int .u64 0,.int .u64 0,.int .i64 0,.int .i64 0,.int .i64 0]:Array Value).getD i undef):=by
    rw[←adt,←hD];exact Row.lit (n:=7) (f:=λi=>(#[Value.int .i64 0,.int .u64 0,.int .u64 0,.int .u64 0,.int .i64 0,.int .i64 0,.int .i64 0]:Array Value).getD i undef) W1.drew #[.int .i64 0,.int .u64 0,.int .u64 0,.int .u64 0,.int .i64 0,.int .i64 0,.int .i64 0] 52 (Nat.le_refl _) lC
   have r2:=R1.out.of_block (o2.block B R1.out.lt sj);have k2:=K1.out.off o2;rw[hW2,hD];refine hK.out _ _ ⟨k2.c5,r2.c 0,r2.c 1,r2.c 2,r2.c 3⟩ (λHS=>?_);obtain⟨N2,bg2,Y3,st2⟩:=k2.st;have HI2:=jh (Di (ex:=X) st2 u v x t HC.out XQ.out.1 XQ.out.2);have O2:=jh (O1.out.trans o2 λj hj=>by cases hj);have R2:=jh r2;have Z2:=jh z2;have K2':=jh k2;have HBD:=jh (show B≠D from λe=>oC R1.out.lt);have HDB:=jh (show D∉G.bl c.E∧w.heap.size≤D from⟨λc1=>oD (KW.out.lt D c1) O1.out.size,oC O1.out.size⟩);clear hK hW2 adt o2 z2 r2 k2 st2 hD;refine rC 6 λK2 hK=>?_;go_simp;apply mO HI2;rintro e W3 ⟨k,sq,F2,bg3,s2,Y2,rfl,Uu,hb2,CF,ins⟩;dsimp only;obtain⟨k3,b3⟩:=K2'.out.setSt ⟨N2,bg3,Y2,Uu⟩ hb2 CF;have JI:B∉G.bl c.E:=λc1=>oD (KW.out.lt B c1) HB.out;have b03:Bo (G.bl c.E) (({ G with sf:=F2 }:dX).bl c.E) w W3:=(Bo.aX O2.out).trans b3;have r3:=R2.out.of_block (b3.off.block B R2.out.lt JI);have z3:=Z2.out.of_block (b3.off.block D Z2.out.lt HDB.out.1)
   have e5:W3.cell? ⟨G.b,5,none⟩=some (.pointer (some ⟨G.sf.b,0,none⟩)):=by rw[←hb2];exact k3.c5
   refine hK.out _ _ ⟨e5,r3.c 0,r3.c 1,r3.c 2,r3.c 3⟩ (λHS=>?_);have hDn:D∉({ G with sf:=F2 }:dX).bl c.E:=λc1=>(b3.fQ D c1).elim HDB.out.1 λe=>oC Z2.out.lt;have KW3:=jh k3;have X9:=jh b03;have R3:=jh r3;have tX:=jh ins;have HB2:=jh hb2;have HOK:=jh Uu.ok;have afn:=jh hDn;have aqX:=jh (show B∉({ G with sf:=F2 }:dX).bl c.E from λc1=>(b3.fQ B c1).elim JI λe=>oC R2.out.lt);clear hK HI2 Uu hb2 CF ins k3 b3 JI b03 r3 e5 K2' O2 R2 Z2 hDn;refine tC 7 ?_;refine tC 8 ?_;refine tC 9 ?_
   try simp only[sD]
   refine rC 11 λK2 hK=>?_;have q0:W3.cell? ⟨D,0,none⟩=some (.int .i64 0):=z3.c 0;have q1:W3.cell? ⟨D,1,none⟩=some (.int .u64 0):=z3.c 1;have q2:W3.cell? ⟨D,2,none⟩=some (.int .u64 0):=z3.c 2;have q3:W3.cell? ⟨D,3,none⟩=some (.int .u64 0):=z3.c 3;have q4:W3.cell? ⟨D,4,none⟩=some (.int .i64 0):=z3.c 4;have q5:W3.cell? ⟨D,5,none⟩=some (.int .i64 0):=z3.c 5;have q6:W3.cell? ⟨D,6,none⟩=some (.int .i64 0):=z3.c 6;have g0:=z3.frozen 0;have g1:=z3.frozen 1;have g2:=z3.frozen 2;have g3:=z3.frozen 3;have g4:=z3.frozen 4;have g5:=z3.frozen 5;have g6:=z3.frozen 6;go_simp;obtain⟨W4,gT⟩:=nE ((((((((W3.setCell ⟨D,0,none⟩ (.int .i64 k)).setCell ⟨D,1,none⟩ (.int .u64 sq)).setCell ⟨D,2,none⟩ (.int .u64 u)).setCell ⟨D,3,none⟩ (.int .u64 v)).setCell ⟨D,4,none⟩ (.int .i64 x)).setCell ⟨D,5,none⟩ (.int .i64 t)).setCell ⟨D,6,none⟩ (.int .i64 X)));rw[gT]
   have z4:Row W4 D 7 (λi=>(#[Value.int .i64 k,.int .u64 sq,.int .u64 u,.int .u64 v,.int .i64 x,.int .i64 t,.int .i64 X]:Array Value).getD i undef):=by
    rw[←gT];refine(((((((z3.set 0 _).set 1 _).set 2 _).set 3 _).set 4 _).set 5 _).set 6 _).congr λi hi=>?_
    match i,hi with
    |0,_ |1,_ |2,_ |3,_ |4,_ |5,_ |6,_=>rfl
    |k+7,e=>exact absurd e om
   have o4:Off [D] W3 W4:=by
    rw[←gT];exact((((((((Off.refl [D] W3).setCell (p:=⟨D,0,none⟩) sj _).setCell (p:=⟨D,1,none⟩) sj _).setCell (p:=⟨D,2,none⟩) sj _).setCell (p:=⟨D,3,none⟩) sj _).setCell (p:=⟨D,4,none⟩) sj _).setCell (p:=⟨D,5,none⟩) sj _).setCell (p:=⟨D,6,none⟩) sj _)
   have hBD:B≠D:=by have:=R3.out.lt;have:=HB.out;have:=HDB.out.2;exact HBD.out
   have r4:=R3.out.of_block (o4.block B R3.out.lt (by simpa using hBD));have k4:=KW3.out.keep (w':=W4) λj hj=>o4.block j (KW3.out.lt j hj) (by simp;intro e;exact afn.out (e▸hj))
   have e5:W4.cell? ⟨G.b,5,none⟩=some (.pointer (some ⟨G.sf.b,0,none⟩)):=by rw[←HB2.out];exact k4.c5
   refine hK.out _ _ ⟨e5,r4.c 0,r4.c 1,r4.c 2,r4.c 3⟩ (λHS=>?_);have XL:=jh k4;have R4:=jh r4;have Z4:=jh z4;have BO4:=jh (show Bo (G.bl c.E) (({ G with sf:=F2 }:dX).bl c.E) w W4 from⟨X9.out.off.trans o4 (λj hj=>.inr (by simp at hj;rw[hj];exact HDB.out.2)),X9.out.fQ⟩);have HDN:=jh afn.out;clear hK o4 gT r4 k4 z4 e5 hBD q0 q1 q2 q3 q4 q5 q6 g0 g1 g2 g3 g4 g5 g6 z3 R3 KW3 X9;refine tC 12 ?_
   try simp only[sD]
   exact wl (TL W4 D k sq F2 s2 ⟨XL.out,R4.out,Z4.out,BO4.out,HDN.out,tX.out,HB2.out,HOK.out⟩)
 ·intro W4 D k sq F2 s2 hC;have XL:=jh hC.1;have R4:=jh hC.2.1;have Z4:=jh hC.2.2.1;have BO4:=jh hC.2.2.2.1;have HDN:=jh hC.2.2.2.2.1;have tX:=jh hC.2.2.2.2.2.1;have HB2:=jh hC.2.2.2.2.2.2.1;have HOK:=jh hC.2.2.2.2.2.2.2;have HS:True:=trivial;clear hC;refine dD ⟨rfl,?_⟩;clear HS;obtain⟨N4,bg4,aoc,Xe⟩:=XL.out.st;have HG:=jh (rE (Xe.off (w':=W4.drew) (Off.refl _ _).drew) u);rw[show(({ G with sf:=F2 }:dX).sf).b=G.sf.b from HB2.out] at HG
  have e5:W4.drew.cell? ⟨G.b,5,none⟩=some (.pointer (some ⟨G.sf.b,0,none⟩)):=by rw[←HB2.out];exact XL.out.c5
  have HS:W4.drew.cell? ⟨G.b,5,none⟩=some (.pointer (some ⟨G.sf.b,0,none⟩))∧W4.drew.cell? ⟨B,0,none⟩=some (.int .u64 u):=⟨e5,R4.out.c 0⟩;clear Xe e5;go_wp2;refine aj (λw'=>w'.cell? ⟨G.b,5,none⟩=some (.pointer (some ⟨G.sf.b,0,none⟩))∧w'.cell? ⟨B,0,none⟩=some (.int .u64 u)) (by kernel_rfl) ?_;refine tC 0 ?_;refine tC 1 ?_;refine tC 2 ?_;refine tC 3 ?_;refine tC 4 ?_;refine tC 5 ?_
  try simp only[sD]
  refine rC 6 λK2 hK=>?_;go_simp;apply mO HG;rintro e W5 ⟨q,rfl,hq,o5⟩
  obtain⟨a,rfl⟩:∃a,q=some a:=by
   cases q with
   |some a=>exact⟨a,rfl⟩
   |none=>
    exfalso;obtain⟨i,h1,h2⟩:=(tX.out.has u).2 (.inl (.inr rfl));exact hq.no rfl i h1 h2
  unfold mh;dsimp only
  have DF:Off [] W4 W5:=(Off.refl _ _).drew.trans o5 λj hj=>by cases hj
  have k5:=XL.out.off DF;have r5:=R4.out.of_block (DF.block B R4.out.lt sj);have z5:=Z4.out.of_block (DF.block D Z4.out.lt sj)
  have e5:W5.cell? ⟨G.b,5,none⟩=some (.pointer (some ⟨G.sf.b,0,none⟩)):=by rw[←HB2.out];exact k5.c5
  refine hK.out _ _ ⟨e5,r5.c 0⟩ (λHS=>?_);have KW5:=jh k5;have R5:=jh r5;have Z5:=jh z5;have BO5:=jh (BO4.out.trans (Bo.aX DF));have HGA:=jh (hq.yes a rfl);clear hK HG hq o5 DF k5 r5 z5 e5 XL R4 Z4 BO4;refine tC 7 ?_;refine tC 8 ?_;refine tC 9 ?_;refine tC 10 ?_;refine tC 11 ?_
  try simp only[sD]
  refine dD ⟨rfl,?_⟩;clear HS;obtain⟨N5,bg5,acO,st5⟩:=KW5.out.st;have HG:=jh (rE (st5.off (w':=W5.drew) (Off.refl _ _).drew) v);rw[show(({ G with sf:=F2 }:dX).sf).b=G.sf.b from HB2.out] at HG
  have e5:W5.drew.cell? ⟨G.b,5,none⟩=some (.pointer (some ⟨G.sf.b,0,none⟩)):=by rw[←HB2.out];exact KW5.out.c5
  have HS:W5.drew.cell? ⟨G.b,5,none⟩=some (.pointer (some ⟨G.sf.b,0,none⟩))∧W5.drew.cell? ⟨B,1,none⟩=some (.int .u64 v):=⟨e5,R5.out.c 1⟩;clear st5 e5;go_wp2;refine aj (λw'=>w'.cell? ⟨G.b,5,none⟩=some (.pointer (some ⟨G.sf.b,0,none⟩))∧w'.cell? ⟨B,1,none⟩=some (.int .u64 v)) (by kernel_rfl) ?_;refine tC 0 ?_;refine tC 1 ?_;refine tC 2 ?_;refine tC 3 ?_;refine tC 4 ?_;refine tC 5 ?_
  try simp only[sD]
  refine rC 6 λK2 hK=>?_;go_simp;apply mO HG;rintro e W6 ⟨q,rfl,hq,o5⟩
  obtain⟨b,rfl⟩:∃b,q=some b:=by
   cases q with
   |some a=>exact⟨a,rfl⟩
   |none=>
    exfalso;obtain⟨i,h1,h2⟩:=(tX.out.has v).2 (.inr rfl);exact hq.no rfl i h1 h2
  unfold mh;dsimp only
  have DF:Off [] W5 W6:=(Off.refl _ _).drew.trans o5 λj hj=>by cases hj
  have k6:=KW5.out.off DF;have r6:=R5.out.of_block (DF.block B R5.out.lt sj);have z6:=Z5.out.of_block (DF.block D Z5.out.lt sj)
  have e5:W6.cell? ⟨G.b,5,none⟩=some (.pointer (some ⟨G.sf.b,0,none⟩)):=by rw[←HB2.out];exact k6.c5
  refine hK.out _ _ ⟨e5,r6.c 1⟩ (λHS=>?_);have KW6:=jh k6;have Z6:=jh z6;have BO6:=jh (BO5.out.trans (Bo.aX DF));have Fw:=jh (hq.yes b rfl);clear hK HG hq o5 DF k6 r6 z6 e5 KW5 R5 Z5 BO5;refine tC 7 ?_;refine tC 8 ?_;refine tC 9 ?_;refine tC 10 ?_;refine tC 11 ?_
  try simp only[sD]
  refine dD ⟨rfl,?_⟩;clear HS;obtain⟨L6,sc6,hL6⟩:=KW6.out.sc;have hkE:k<c.E:=HOK.out.ult k (by rw[tX.out.U];simp);have HSE:=jh (RI (t:=X) (sc6.keep (w':=W6.drew) λ_ _=>rfl) (oC WS.out.cf.E) hkE (λe he c1=>tX.out.new (by rw[←c1];exact((hL6 e).1 he).1)));have HS:W6.drew.cell? ⟨G.b,6,none⟩=some (.pointer (some ⟨G.eb,0,none⟩))∧W6.drew.cell? ⟨D,0,none⟩=some (.int .i64 k):=⟨KW6.out.c6,Z6.out.c 0⟩;have qp:=jh hL6;have HKE:=jh hkE;clear sc6 hL6 hkE;go_wp2;refine aj (λw'=>w'.cell? ⟨G.b,6,none⟩=some (.pointer (some ⟨G.eb,0,none⟩))∧w'.cell? ⟨D,0,none⟩=some (.int .i64 k)) (by kernel_rfl) ?_;refine tC 0 ?_;refine tC 1 ?_;refine tC 2 ?_;refine tC 3 ?_;refine tC 4 ?_;refine tC 5 ?_;refine tC 6 ?_
  try simp only[sD]
  refine rC 7 λK2 hK=>?_;go_simp;apply mO HSE;rintro e W7 ⟨rfl,h7,L7,sc7,hL7,BR,_⟩;dsimp only
  obtain⟨k7,b7⟩:=(KW6.out.off (w':=W6.drew) (Off.refl _ _).drew).Xf (ef':=s2.ex) (U':=s2.U) ⟨L7,sc7,λe=>by
   rw[hL7,qp.out e,tX.out.U];constructor
   ·rintro(⟨q1,q2⟩ |q)
    ·have hne:e.i≠k:=λc1=>tX.out.new (by rw[←c1];exact q1);exact⟨List.mem_cons_of_mem _ q1,by rw[(tX.out.old _ hne).2];exact q2⟩
    ·subst q;exact⟨List.mem_cons_self ..,tX.out.at_.2.symm⟩
   ·rintro⟨q1,q2⟩
    rcases List.mem_cons.1 q1 with q |q
    ·right
     cases e with |mk ei ek=>cases q;rw[tX.out.at_.2] at q2;cases q2;rfl
    ·have hne:e.i≠k:=λc1=>tX.out.new (by rw[←c1];exact q);rw[(tX.out.old _ hne).2] at q2
     exact .inl ⟨q,q2⟩⟩ BR
  have z7:=Z6.out.of_block (b7.off.block D Z6.out.lt HDN.out);refine hK.out _ _ ⟨k7.c6,z7.c 0⟩ (λHS=>?_)
  have hDn:D∉({ G with sf:=F2,eh:=h7 }:dX).bl c.E:=λc1=>(b7.fQ D c1).elim HDN.out λe=>by have:=Z6.out.lt;have e':W6.heap.size≤D:=e;omega
  have KW7:=jh k7;have Z7:=jh z7;have BO7:=jh (BO6.out.trans ((Bo.aX ((Off.refl _ _).drew)).trans b7));have aj1:=jh hDn;clear hK HSE sc7 hL7 BR k7 b7 z7 hDn KW6 Z6 BO6 qp HDN;refine dD ⟨rfl,?_⟩;clear HS
  have hin:∀j∈s2.TU,j<c.V:=λj hj=>by
   obtain⟨_,_,_,st⟩:=KW7.out.st;obtain⟨_,_,_,ok⟩:=st.tb;exact Nat.lt_of_lt_of_le (ok.lt j hj) ok.le
  have hab:a≠b:=λe=>by
   have h1:=HGA.out.2;have h2:=Fw.out.2;rw[e,h2] at h1;exact(BQ HC.out).1 h1.symm
  have hlk:f.lv k=false:=by
   cases q:f.lv k with
   |false=>rfl
   |true=>exact absurd ((WS.out.wn.lv k).1 q) tX.out.new
  have HFA:=jh (RG (x:=X) (KW7.out.fo.keep (w':=W7.drew) λ_ _=>rfl) WS.out.wn.fo hlk HKE.out (hin a HGA.out.1) (hin b Fw.out.1) hab HF.out (oD WS.out.cf.E WS.out.cf.V));have HS:W7.drew.cell? ⟨G.b,7,none⟩=some (.pointer (some ⟨G.ff.b,0,none⟩))∧W7.drew.cell? ⟨D,0,none⟩=some (.int .i64 k):=⟨KW7.out.c7,Z7.out.c 0⟩;clear hin hab hlk;go_wp2;refine aj (λw'=>w'.cell? ⟨G.b,7,none⟩=some (.pointer (some ⟨G.ff.b,0,none⟩))∧w'.cell? ⟨D,0,none⟩=some (.int .i64 k)) (by kernel_rfl) ?_;refine tC 0 ?_;refine tC 1 ?_;refine tC 2 ?_;refine tC 3 ?_;refine tC 4 ?_;refine tC 5 ?_;refine tC 6 ?_;refine tC 7 ?_;refine tC 8 ?_
  try simp only[sD]
  refine rC 9 λK2 hK=>?_;go_simp;apply mO HFA;rintro e W8 ⟨rfl,F8,f8,m8,ok8,hb8,hf8,bo8⟩;dsimp only;obtain⟨k8,b8⟩:=(KW7.out.off (w':=W7.drew) (Off.refl _ _).drew).Ja m8 hb8 bo8;have z8:=Z7.out.of_block (b8.off.block D Z7.out.lt aj1.out)
  have e7:W8.cell? ⟨G.b,7,none⟩=some (.pointer (some ⟨G.ff.b,0,none⟩)):=by rw[←hb8];exact k8.c7
  refine hK.out _ _ ⟨e7,z8.c 0⟩ (λHS=>?_);have KW8:=jh k8;have BO8:=jh (BO7.out.trans ((Bo.aX ((Off.refl _ _).drew)).trans b8));have HOF:=jh (And.intro ok8 hf8);clear hK HFA m8 ok8 hb8 hf8 bo8 k8 b8 z8 e7 KW7 Z7 BO7;refine dD ⟨rfl,?_⟩;clear HS;obtain⟨ad1,adr⟩:=nE (ad+1);have wa:(ad:Int)+1=(ad1:Int):=om
  have wad:IntKind.u64.wrap (ad1:Int)=(ad1:Int):=by have:=HA.out;simp[IntKind.wrap,IntKind.bits,IntKind.signed];omega
  have c8:=KW8.out.c8;have f8c:=KW8.out.fz 8;obtain⟨k9,b9⟩:=KW8.out.ab5 ad1;have K9:=jh k9;have BO9:=jh (BO8.out.trans b9);have HAD:=jh adr;clear k9 b9 adr;go_wp2;go_end0;rw[HAD.out];obtain⟨T,rfl⟩:=HOF.out.2;have hwn:=WS.out.wn.ins tX.out HOK.out HOF.out.1 HGA.out Fw.out;refine⟨rfl,_,s2,⟨_,K9.out,⟨WS.out.cf,hwn,λj hj=>?_⟩⟩,rfl,BO9.out,k,tX.out⟩;rw[tX.out.U] at hj
  rcases List.mem_cons.1 hj with e |e
  ·rw[e,tX.out.at_.1];exact⟨XQ.out.1,XQ.out.2,HT.out.1,HT.out.2⟩
  ·rw[(tX.out.old j λc1=>tX.out.new (c1▸e)).1];exact WS.out.wf j e
end
section
variable {w:World} {G:dX} {c:Cf} {nw ex:Int} {ad:Nat} {s:St}
def akg (w:World) (G:dX) (c:Cf) (nw:Int) (ad:Nat) (s:St) (u v x t:Int) (e:Ending) (w':World):Prop:=
 ∃er,e=.returned (.int .i64 er)∧∃G' nw' ad' JM s',qW w' G' c nw' ad' JM s'∧ad'≤ad+1∧G'.b=G.b∧Bo (G.bl c.E) (G'.bl c.E) w w'∧(u≠v→J2 c.win nw t=0→gK c.E c.V s u v=0→s.U=[]→er=0∧∃k,s'.U=[k]∧s'.rc k=⟨u,v,t,x⟩)
theorem CX (h:qW w G c nw ad ex s) (u v x t:Int) (hu:(Lit.int .u64 u).wf=true) (hv:(Lit.int .u64 v).wf=true) (hx:dR x) (ht:dR t) (had:ad≤1000000):
  Calls Tryz.prog 7 #[.pointer (some ⟨G.b,0,none⟩),.agg #[.int .u64 u,.int .u64 v,.int .i64 x,.int .i64 t]] w (akg w G c nw ad s u v x t):=by
 obtain⟨B,hB⟩:=nE w.heap.size;obtain⟨W0,hW0⟩:∃W,w.alloc (.cells #[.int .u64 u,.int .u64 v,.int .i64 x,.int .i64 t] 33)=W:=⟨_,rfl⟩
 have o0:Off [] w W0:=by rw[←hW0];exact(Off.refl _ _).alloc _
 have r0:Row W0 B 4 (λi=>(#[Value.int .u64 u,.int .u64 v,.int .i64 x,.int .i64 t]:Array Value).getD i undef):=by
  rw[←hW0,←hB];exact Row.lit _ _ _ (Nat.le_refl _) lC
 have h0:=h.off o0;obtain⟨f,k0,ws⟩:=h0;have HV:=jh (gH k0);have HB:=jh hB;have HW0:=jh hW0;have O0:=jh o0;have R0:=jh r0;have H0:=jh (h.off o0);have HT:=jh (And.intro hx (And.intro ht (And.intro had (And.intro hu hv))));have K0:=jh k0;have WS:=jh ws;have oJ:=jh h.lt;have a0:W0.cell? ⟨B,0,none⟩=some (.int .u64 u):=r0.c 0;have a1:W0.cell? ⟨B,1,none⟩=some (.int .u64 v):=r0.c 1;have a3:W0.cell? ⟨B,3,none⟩=some (.int .i64 t):=r0.c 3;clear k0 ws h o0 r0 hW0 hB hx ht had hu hv;go_in;go_wp2_with fail;rw[HW0.out,HB.out];apply mO HV;rintro e w1 ⟨rfl,hw1⟩;obtain rfl:=hw1
 by_cases huv:u=v
 ·subst huv;have d1:((u:Int)==u)=true:=sj;go_wp2;go_ret;exact⟨9,rfl,G,nw,ad,ex,s,H0.out,om,rfl,Bo.aX O0.out,λh=>absurd rfl h⟩
 ·have d1:((u:Int)==v)=false:=by simp;exact huv
  have EY:=jh huv;have HS:w1.drew.cell? ⟨G.b,4,none⟩=some (.pointer (some ⟨G.cb,0,none⟩))∧w1.drew.cell? ⟨B,3,none⟩=some (.int .i64 t):=⟨K0.out.c4,a3⟩;have HCK:=jh (vB (w:=w1.drew) K0.out.ck WS.out.cf.win HT.out.2.1);clear huv HV;go_wp2;refine aj (λw'=>w'.cell? ⟨G.b,4,none⟩=some (.pointer (some ⟨G.cb,0,none⟩))∧w'.cell? ⟨B,3,none⟩=some (.int .i64 t)) (by kernel_rfl) ?_;refine tC 0 ?_;refine tC 1 ?_;refine tC 2 ?_;refine tC 3 ?_;refine tC 4 ?_;refine tC 5 ?_
  try simp only[sD]
  refine rC 6 λK2 hK=>?_;go_simp;apply mO HCK;rintro e w' ⟨rfl,hw'⟩;obtain rfl:=hw';dsimp only;refine hK.out _ _ HS (λHS=>?_);clear hK HCK;refine tC 7 ?_
  try simp only[sD]
  refine dD ⟨rfl,?_⟩;clear HS a0 a1 a3;obtain⟨W1,hW1⟩:=nE w1.drew;rw[hW1]
  have oo:Off [] w1 W1:=by rw[←hW1];exact(Off.refl _ _).drew
  have H1:=jh (H0.out.off oo);have O1:=jh (O0.out.trans oo λj hj=>by cases hj);have R1:=jh (R0.out.of_block (oo.block B R0.out.lt sj));clear hW1 oo H0 O0 K0;obtain⟨ck,hck⟩:=nE (J2 c.win nw t);rw[hck];have HCE:=jh hck
  by_cases hz:ck=0
  ·subst hz;obtain⟨f1,k1,_⟩:=H1.out;have c8:=k1.c8;have aik:=HT.out.2.2.1;have d2:decide ((ad:Int)≥9223372036854775807)=false:=dF om;have d3:decide ((9223372036854775807:Int)≤ad)=false:=dF om;have d4:decide (9223372036854775807≤ad)=false:=dF om;have a0:W1.cell? ⟨B,0,none⟩=some (.int .u64 u):=R1.out.c 0;have a1:W1.cell? ⟨B,1,none⟩=some (.int .u64 v):=R1.out.c 1;have a2:W1.cell? ⟨B,2,none⟩=some (.int .i64 x):=R1.out.c 2;have a3:W1.cell? ⟨B,3,none⟩=some (.int .i64 t):=R1.out.c 3;have HRM:=jh (Kn H1.out u v x t);clear hck k1 aik;go_wp2_with fail;apply mO HRM;rintro e w2 ⟨er,rfl,o2,hr1,hr2⟩
   have o02:Off [] w w2:=O1.out.trans o2 λj hj=>by cases hj
   have r2:=R1.out.of_block (o2.block B R1.out.lt sj);have H2:=jh (H1.out.off o2);have O2:=jh o02;have R2:=jh r2;have HR:=jh (And.intro hr1 hr2);have b0:w2.cell? ⟨B,0,none⟩=some (.int .u64 u):=r2.c 0;have b1:w2.cell? ⟨B,1,none⟩=some (.int .u64 v):=r2.c 1;have b2:w2.cell? ⟨B,2,none⟩=some (.int .i64 x):=r2.c 2;have b3:w2.cell? ⟨B,3,none⟩=some (.int .i64 t):=r2.c 3;clear o2 hr1 hr2 o02 r2 a0 a1 a2 a3 c8 HRM H1 O1 R1
   by_cases hz:er=0
   ·subst hz;have HTK:=jh (zi H2.out HT.out.2.1);go_wp2_with fail;apply mO HTK;rintro e w3 ⟨Mw,rfl,G3,YG,ex3,s3,h3,hb3,Ai,hcase⟩
    obtain⟨_,_,hnw,tk⟩:J2 c.win nw t=0∧Mw=0∧YG=t∧TkR s s3 t:=by
     rcases hcase with q |q
     ·exact q
     ·exact absurd HCE.out q.1
    subst hnw;have JI:B∉G.bl c.E:=λc1=>oD (oJ.out B c1) HB.out;have r3:=R2.out.of_block (Ai.off.block B R2.out.lt JI);have d0:w3.cell? ⟨B,0,none⟩=some (.int .u64 u):=r3.c 0;have d1':w3.cell? ⟨B,1,none⟩=some (.int .u64 v):=r3.c 1;have d2':w3.cell? ⟨B,2,none⟩=some (.int .i64 x):=r3.c 2;have d3':w3.cell? ⟨B,3,none⟩=some (.int .i64 YG):=r3.c 3
    have hfit:YG+c.win≤9223372036854775807:=by
     have:=HCE.out;unfold J2 at this
     by_cases q:YG<nw
     ·rw[if_pos q] at this;omega
     ·rw[if_neg q] at this
      by_cases q2:YG+c.win≤9223372036854775807
      ·exact q2
      ·rw[if_neg q2] at this;omega
    have acY:jA c.E s3:=by obtain⟨_,_,ws3⟩:=h3;exact ws3.wn.st
    have tX:=jh (CW h3 u v x YG (HR.out.1 (by trivial) s3 tk acY) hfit HT.out.2.2.2.1 HT.out.2.2.2.2 HT.out.1 HT.out.2.1 HT.out.2.2.1);rw[hb3] at tX;have X9:=jh ((Bo.aX O2.out).trans Ai);have TK:=jh tk;have HB3:=jh hb3;clear h3 hb3 Ai hcase tk JI r3 hfit acY b0 b1 b2 b3 HTK H2 O2 R2;go_wp2_with fail;apply mO tX;rintro e w4 ⟨rfl,G4,s4,k,h4,hb4,Cz,ins⟩;have H4:=jh h4;have B4:=jh (And.intro hb4 (X9.out.trans Cz));have IN:=jh ins;clear h4 hb4 Cz ins d0 d1' d2' d3' tX;go_wp2;go_ret;refine⟨0,rfl,G4,YG,ad+1,ex3,s4,H4.out,Nat.le_refl _,B4.out.1,B4.out.2,λ_ _ _ hU=>⟨rfl,k,?_,IN.out.at_.1⟩⟩;rw[IN.out.U]
    congr 1
    cases hs:s3.U with
    |nil=>rfl
    |cons q T=>
     have:=(TK.out.U q).1 (by rw[hs];simp);rw[hU] at this;cases this.1
   ·have d5:((er:Int)==0)=false:=by simp;exact hz
    have HZ:=jh hz;clear hz;go_wp2;go_ret;exact⟨er,rfl,G,nw,ad,ex,s,H2.out,om,rfl,Bo.aX O2.out,λ_ _ h=>absurd (HR.out.2 h) HZ.out⟩
  ·have d2:((ck:Int)==0)=false:=by simp;exact hz
   have HZ:=jh hz;clear hck hz;go_wp2;go_ret;exact⟨ck,rfl,G,nw,ad,ex,s,H1.out,om,rfl,Bo.aX O1.out,λ_ h=>absurd (HCE.out.symm.trans h) HZ.out⟩
end
def aer (w:World) (s:St) (e:Ending) (w':World):Prop:=
 ∃g cap l,e=.returned (.slice (some ⟨g,0,none⟩) (s.TU.length:Nat) cap)∧gy w.heap.size (.slice (some ⟨g,0,none⟩) (s.TU.length:Nat) cap) l w'∧l.Perm (s.TU.map (aJ s.ids))∧l.Pairwise (·≤·)∧Off [] w w'
section
variable {w:World} {F:bD} {E V N bg:Nat} {s:St} {inc:Int→List Nat}
theorem O9 (h:lq w F E V N bg s inc) (hV:V≤12):
  Calls Tryz.prog 169 #[.pointer (some ⟨F.b,0,none⟩)] w (aer w s):=by
 have HV:=jh (iP h);have c4:=h.c4;have HL:=jh (KA h.tb om (Nat.le_trans h.IV hV));clear h hV;go_in;go_wp2_with fail;apply mO HV;rintro e w1 ⟨rfl,rfl⟩;go_wp2_with fail;apply mO HL;rintro e w2 ⟨g,cap,l,rfl,h1⟩;have H1:=jh h1;clear h1 HL;go_wp2;go_ret;exact⟨g,cap,l,rfl,H1.out⟩
end
section
variable {w:World} {G:dX} {c:Cf} {nw ex:Int} {ad:Nat} {s:St} {ef:Nat→Int} {U:List Nat} {f:Fs}
theorem NZ (h:fM w G c nw ad ex s ef U f) (hV:c.V≤12):
  Calls Tryz.prog 142 #[.pointer (some ⟨G.b,0,none⟩)] w (aer w s):=by
 have HV:=jh (gH h);have c5:=h.c5;obtain⟨N,bg,inc,st⟩:=h.st;have HL:=jh (O9 st hV);clear h hV st;go_in;go_wp2_with fail;apply mO HV;rintro e w1 ⟨rfl,rfl⟩;go_wp2_with fail;apply mO HL;rintro e w2 ⟨g,cap,l,rfl,h1⟩;have H1:=jh h1;clear h1 HL;go_wp2;go_ret;exact⟨g,cap,l,rfl,H1.out⟩
def qA (ad:Nat) (ex:Int):Int:=IntKind.u64.wrap ((ad:Int)+ex)
theorem CR (h:fM w G c nw ad ex s ef U f):
  Calls Tryz.prog 62 #[.pointer (some ⟨G.b,0,none⟩)] w λe w'=>e=.returned (.int .u64 (qA ad ex))∧w'=w.drew:=by
 have HV:=jh (gH h);have HS:w.drew.cell? ⟨G.b,8,none⟩=some (.int .u64 ad)∧w.drew.cell? ⟨G.b,9,none⟩=some (.int .u64 ex):=⟨h.c8,h.c9⟩;obtain⟨y,hy⟩:=nE (IntKind.u64.wrap ((ad:Int)+ex));have HY:=jh hy;clear h;go_in;go_wp2_with fail;apply mO HV;rintro e w1 ⟨rfl,rfl⟩;go_wp2;refine aj (λw'=>w'.cell? ⟨G.b,8,none⟩=some (.int .u64 ad)∧w'.cell? ⟨G.b,9,none⟩=some (.int .u64 ex)) (by kernel_rfl) ?_;refine tC 0 ?_;refine tC 1 ?_;refine tC 2 ?_;refine tC 3 ?_;refine tC 4 ?_;refine tC 5 ?_;refine tC 6 ?_;refine tC 7 ?_;refine tC 8 ?_;refine tC 9 ?_
 try simp only[sD]
 refine dD ⟨rfl,?_⟩;clear HS hy;go_wp2;go_ret;exact⟨by unfold qA;rw[HY.out];rfl,rfl⟩
theorem Ko (h:fM w G c nw ad ex s ef U f):
  Calls Tryz.prog 23 #[.pointer (some ⟨G.b,0,none⟩)] w λe w'=>e=.returned (.agg #[.int .i64 c.win,.int .i64 (c.E:Nat),.int .i64 (c.V:Nat),.int .i64 c.dr])∧Off [] w w':=by
 obtain⟨D,hD⟩:=nE w.heap.size;obtain⟨W0,hW0⟩:∃W,w.alloc (.cells #[.int .i64 0,.int .i64 0,.int .i64 0,.int .i64 0] 23)=W:=⟨_,rfl⟩
 have o0:Off [] w W0:=by rw[←hW0];exact(Off.refl _ _).alloc _
 have z0:Row W0 D 4 (λ_=>.int .i64 0):=by
  rw[←hW0,←hD];exact Row.lit _ _ _ (Nat.le_refl _) lC
 have k0:=h.off o0;have HV:=jh (gH k0);have c0:=k0.c0;have c1:=k0.c1;have c2:=k0.c2;have c3:=k0.c3;have q0:=z0.c 0;have q1:=z0.c 1;have q2:=z0.c 2;have q3:=z0.c 3;have g0:=z0.frozen 0;have g1:=z0.frozen 1;have g2:=z0.frozen 2;have g3:=z0.frozen 3;have z4:=(((z0.set 0 (.int .i64 c.win)).set 1 (.int .i64 c.E)).set 2 (.int .i64 c.V)).set 3 (.int .i64 c.dr);obtain⟨W4,gT⟩:=nE ((((W0.setCell ⟨D,0,none⟩ (.int .i64 c.win)).setCell ⟨D,1,none⟩ (.int .i64 c.E)).setCell ⟨D,2,none⟩ (.int .i64 c.V)).setCell ⟨D,3,none⟩ (.int .i64 c.dr));rw[gT] at z4
 have O4:=jh (show Off [] w W4 by
  rw[←gT]
  exact(((o0.bZ (p:=⟨D,0,none⟩) (Nat.le_of_eq hD) _).bZ (p:=⟨D,1,none⟩) (Nat.le_of_eq hD) _).bZ (p:=⟨D,2,none⟩) (Nat.le_of_eq hD) _).bZ (p:=⟨D,3,none⟩) (Nat.le_of_eq hD) _)
 have s0:W4.cell? ⟨D,0,none⟩=some (.int .i64 c.win):=z4.c 0;have s1:W4.cell? ⟨D,1,none⟩=some (.int .i64 c.E):=z4.c 1;have s2:W4.cell? ⟨D,2,none⟩=some (.int .i64 c.V):=z4.c 2;have s3:W4.cell? ⟨D,3,none⟩=some (.int .i64 c.dr):=z4.c 3;have HW0:=jh hW0;have HD:=jh hD;have J8:=jh gT;have HSS:=jh (And.intro s0 (And.intro s1 (And.intro s2 s3)));clear k0 z0 z4 o0 hW0 hD gT h s0 s1 s2 s3;go_in;go_wp2_with fail;rw[HW0.out,HD.out];apply mO HV;rintro e w1 ⟨rfl,hw1⟩;obtain rfl:=hw1;go_wp2_with fail;rw[J8.out];obtain⟨s0,s1,s2,s3⟩:=HSS.out;refine bodyPost_ret (v:=.agg #[.int .i64 c.win,.int .i64 c.E,.int .i64 c.V,.int .i64 c.dr]) (by simp[results,Tryz.results23,go_sem,s0,s1,s2,s3]) rfl ?_;exact⟨rfl,O4.out⟩
def GX:Option Nat→Option Nat→Value
 |some a,some b=>.tuple #[.int .i64 (a:Nat),.int .i64 (b:Nat),.int .i64 0]
 |_,_=>.tuple #[.int .i64 0,.int .i64 0,.int .i64 13]
theorem zm (h:fM w G c nw ad ex s ef U f) (u v:Int):
  Calls Tryz.prog 30 #[.pointer (some ⟨G.b,0,none⟩),.int .u64 u,.int .u64 v] w λe w'=>∃a b,e=.returned (GX a b)∧Nz s.ids s.TU u a∧Nz s.ids s.TU v b∧Off [] w w':=by
 have HV:=jh (gH h);have c5:=h.c5;obtain⟨N,bg,inc,st⟩:=h.st;have HI:=jh (rE st u);have H:=jh h;clear h st;go_in;go_wp2_with fail;apply mO HV;rintro e w1 ⟨rfl,rfl⟩;go_wp2_with fail;apply mO HI;rintro e w2 ⟨ra,rfl,ga,o2⟩;have k2:=H.out.off o2;have c5:=k2.c5;obtain⟨N2,bg2,Y3,st2⟩:=k2.st;have HJ:=jh (rE st2 v);have O2:=jh o2;have GA:=jh ga;clear k2 st2 o2 ga HI HV
 cases ra with
 |none=>
  unfold mh;go_wp2_with fail;apply mO HJ;rintro e w3 ⟨rb,rfl,gb,o3⟩;have O3:=jh (O2.out.trans o3 λj hj=>by cases hj);have GB:=jh gb;clear o3 gb HJ c5
  cases rb with
  |none=>
   unfold mh;go_wp2
   go_ret3
   exact⟨none,none,rfl,GA.out,GB.out,O3.out⟩
  |some b=>
   unfold mh;go_wp2
   go_ret3
   exact⟨none,some b,rfl,GA.out,GB.out,O3.out⟩
 |some a=>
  unfold mh;go_wp2_with fail;apply mO HJ;rintro e w3 ⟨rb,rfl,gb,o3⟩;have O3:=jh (O2.out.trans o3 λj hj=>by cases hj);have GB:=jh gb;clear o3 gb HJ c5
  cases rb with
  |none=>
   unfold mh;go_wp2
   go_ret3
   exact⟨some a,none,rfl,GA.out,GB.out,O3.out⟩
  |some b=>
   unfold mh;go_wp2
   go_ret3
   exact⟨some a,some b,rfl,GA.out,GB.out,O3.out⟩
theorem Km (h:qW w G c nw ad ex s) (u:Int):
  Calls Tryz.prog 61 #[.pointer (some ⟨G.b,0,none⟩),.int .u64 u] w λe w'=>∃z er,e=.returned (.tuple #[.int .i64 z,.int .i64 er])∧(er=0∧s.has u∨er=13∧¬s.has u)∧qW w' G c nw ad ex s∧Bo (G.bl c.E) (G.bl c.E) w w':=by
 obtain⟨f,k,ws⟩:=h;have HE:=jh (zm k u u);have K:=jh k;have WS:=jh ws;clear k ws;go_in;go_wp2_with fail;apply mO HE;rintro e w1 ⟨ra,rb,rfl,ga,gb,o1⟩;have O1:=jh o1;have GA:=jh ga;have GB:=jh gb;clear o1 ga gb HE
 cases ra with
 |none=>
  unfold GX;go_wp2;go_ret2;exact⟨_,_,rfl,.inr ⟨rfl,λ⟨i,h1,h2⟩=>GA.out.no rfl i h1 h2⟩,⟨f,K.out.off O1.out,WS.out⟩,Bo.aX O1.out⟩
 |some a=>
  cases rb with
  |none=>
   unfold GX;go_wp2;go_ret2;exact⟨_,_,rfl,.inr ⟨rfl,λ⟨i,h1,h2⟩=>GB.out.no rfl i h1 h2⟩,⟨f,K.out.off O1.out,WS.out⟩,Bo.aX O1.out⟩
  |some b=>
   have k1:=K.out.off O1.out;have c7:=k1.c7
   have hin:a<c.V:=by
    obtain⟨_,_,_,st⟩:=k1.st;obtain⟨_,_,_,ok⟩:=st.tb;exact Nat.lt_of_lt_of_le (ok.lt a (GA.out.yes a rfl).1) ok.le
   have HF:=jh (Mi k1.fo hin (oD WS.out.cf.E WS.out.cf.V));have K1:=jh k1;clear k1 hin;unfold GX;go_wp2_with fail;apply mO HF;rintro e w2 ⟨⟨z,rfl⟩,m2,CF⟩;obtain⟨k2,b2⟩:=K1.out.Ja m2 rfl CF;have K2:=jh k2;have B2:=jh ((Bo.aX O1.out).trans b2);clear k2 b2 m2 CF HF c7;go_wp2;go_ret2;exact⟨_,_,rfl,.inl ⟨rfl,a,(GA.out.yes a rfl).1,(GA.out.yes a rfl).2⟩,⟨f,K2.out,WS.out⟩,B2.out⟩
end
def xX (W E V D:Int):Bool:=decide (1≤W)&&(decide (1≤E)&&(decide (E≤16384)&&(decide (2≤V)&&(decide (V≤4096)&&(decide (0≤D)&&decide (D≤16384))))))
section
variable {w:World}
theorem VE (W E V D:Int) (h0:¬(1≤W)):
  Calls Tryz.prog 35 #[.agg #[.int .i64 W,.int .i64 E,.int .i64 V,.int .i64 D]] w λe w'=>e=.returned (.bool false)∧Off [] w w':=by
 have d0:decide (W≥1)=false:=dF h0;have e0:decide (1≤W)=false:=dF h0;clear h0;go_in;go_wp2;go_ret;exact⟨rfl,(Off.refl _ _).alloc _⟩
theorem VD (W E V D:Int) (h0:1≤W) (h1:¬(1≤E)):
  Calls Tryz.prog 35 #[.agg #[.int .i64 W,.int .i64 E,.int .i64 V,.int .i64 D]] w λe w'=>e=.returned (.bool false)∧Off [] w w':=by
 have d0:decide (W≥1)=true:=dP h0;have e0:decide (1≤W)=true:=dP h0;have d1:decide (E≥1)=false:=dF h1;have e1:decide (1≤E)=false:=dF h1;clear h0 h1;go_in;go_wp2;go_ret;exact⟨rfl,(Off.refl _ _).alloc _⟩
theorem VB (W E V D:Int) (h0:1≤W) (h1:1≤E) (h2:¬(E≤16384)):
  Calls Tryz.prog 35 #[.agg #[.int .i64 W,.int .i64 E,.int .i64 V,.int .i64 D]] w λe w'=>e=.returned (.bool false)∧Off [] w w':=by
 have d0:decide (W≥1)=true:=dP h0;have e0:decide (1≤W)=true:=dP h0;have d1:decide (E≥1)=true:=dP h1;have e1:decide (1≤E)=true:=dP h1;have d2:decide (E≤16384)=false:=dF h2;clear h0 h1 h2;go_in;go_wp2;go_ret;exact⟨rfl,(Off.refl _ _).alloc _⟩
theorem VA (W E V D:Int) (h0:1≤W) (h1:1≤E) (h2:E≤16384) (h3:¬(2≤V)):
  Calls Tryz.prog 35 #[.agg #[.int .i64 W,.int .i64 E,.int .i64 V,.int .i64 D]] w λe w'=>e=.returned (.bool false)∧Off [] w w':=by
 have d0:decide (W≥1)=true:=dP h0;have e0:decide (1≤W)=true:=dP h0;have d1:decide (E≥1)=true:=dP h1;have e1:decide (1≤E)=true:=dP h1;have d2:decide (E≤16384)=true:=dP h2;have d3:decide (V≥2)=false:=dF h3;have e3:decide (2≤V)=false:=dF h3;clear h0 h1 h2 h3;go_in;go_wp2;go_ret;exact⟨rfl,(Off.refl _ _).alloc _⟩
theorem Vz (W E V D:Int) (h0:1≤W) (h1:1≤E) (h2:E≤16384) (h3:2≤V) (h4:¬(V≤4096)):
  Calls Tryz.prog 35 #[.agg #[.int .i64 W,.int .i64 E,.int .i64 V,.int .i64 D]] w λe w'=>e=.returned (.bool false)∧Off [] w w':=by
 have d0:decide (W≥1)=true:=dP h0;have e0:decide (1≤W)=true:=dP h0;have d1:decide (E≥1)=true:=dP h1;have e1:decide (1≤E)=true:=dP h1;have d2:decide (E≤16384)=true:=dP h2;have d3:decide (V≥2)=true:=dP h3;have e3:decide (2≤V)=true:=dP h3;have d4:decide (V≤4096)=false:=dF h4;clear h0 h1 h2 h3 h4;go_in;go_wp2;go_ret;exact⟨rfl,(Off.refl _ _).alloc _⟩
theorem Vy (W E V D:Int) (h0:1≤W) (h1:1≤E) (h2:E≤16384) (h3:2≤V) (h4:V≤4096) (h5:¬(0≤D)):
  Calls Tryz.prog 35 #[.agg #[.int .i64 W,.int .i64 E,.int .i64 V,.int .i64 D]] w λe w'=>e=.returned (.bool false)∧Off [] w w':=by
 have d0:decide (W≥1)=true:=dP h0;have e0:decide (1≤W)=true:=dP h0;have d1:decide (E≥1)=true:=dP h1;have e1:decide (1≤E)=true:=dP h1;have d2:decide (E≤16384)=true:=dP h2;have d3:decide (V≥2)=true:=dP h3;have e3:decide (2≤V)=true:=dP h3;have d4:decide (V≤4096)=true:=dP h4;have d5:decide (D≥0)=false:=dF h5;have e5:decide (0≤D)=false:=dF h5;clear h0 h1 h2 h3 h4 h5;go_in;go_wp2;go_ret;exact⟨rfl,(Off.refl _ _).alloc _⟩
theorem Vx (W E V D:Int) (h0:1≤W) (h1:1≤E) (h2:E≤16384) (h3:2≤V) (h4:V≤4096) (h5:0≤D) (h6:¬(D≤16384)):
  Calls Tryz.prog 35 #[.agg #[.int .i64 W,.int .i64 E,.int .i64 V,.int .i64 D]] w λe w'=>e=.returned (.bool false)∧Off [] w w':=by
 have d0:decide (W≥1)=true:=dP h0;have e0:decide (1≤W)=true:=dP h0;have d1:decide (E≥1)=true:=dP h1;have e1:decide (1≤E)=true:=dP h1;have d2:decide (E≤16384)=true:=dP h2;have d3:decide (V≥2)=true:=dP h3;have e3:decide (2≤V)=true:=dP h3;have d4:decide (V≤4096)=true:=dP h4;have d5:decide (D≥0)=true:=dP h5;have e5:decide (0≤D)=true:=dP h5;have d6:decide (D≤16384)=false:=dF h6;clear h0 h1 h2 h3 h4 h5 h6;go_in;go_wp2;go_ret;exact⟨rfl,(Off.refl _ _).alloc _⟩
theorem Vw (W E V D:Int) (h0:1≤W) (h1:1≤E) (h2:E≤16384) (h3:2≤V) (h4:V≤4096) (h5:0≤D) (h6:D≤16384):
  Calls Tryz.prog 35 #[.agg #[.int .i64 W,.int .i64 E,.int .i64 V,.int .i64 D]] w λe w'=>e=.returned (.bool true)∧Off [] w w':=by
 have d0:decide (W≥1)=true:=dP h0;have e0:decide (1≤W)=true:=dP h0;have d1:decide (E≥1)=true:=dP h1;have e1:decide (1≤E)=true:=dP h1;have d2:decide (E≤16384)=true:=dP h2;have d3:decide (V≥2)=true:=dP h3;have e3:decide (2≤V)=true:=dP h3;have d4:decide (V≤4096)=true:=dP h4;have d5:decide (D≥0)=true:=dP h5;have e5:decide (0≤D)=true:=dP h5;have d6:decide (D≤16384)=true:=dP h6;clear h0 h1 h2 h3 h4 h5 h6;go_in;go_wp2;go_ret;exact⟨rfl,(Off.refl _ _).alloc _⟩
theorem zP (W E V D:Int):
  Calls Tryz.prog 35 #[.agg #[.int .i64 W,.int .i64 E,.int .i64 V,.int .i64 D]] w λe w'=>e=.returned (.bool (xX W E V D))∧Off [] w w':=by
 by_cases h0:1≤W
 rotate_left
 ·have hb:xX W E V D=false:=by unfold xX;simp[h0]
  rw[hb];exact VE W E V D  h0
 by_cases h1:1≤E
 rotate_left
 ·have hb:xX W E V D=false:=by unfold xX;simp[h0,h1]
  rw[hb];exact VD W E V D h0 h1
 by_cases h2:E≤16384
 rotate_left
 ·have hb:xX W E V D=false:=by unfold xX;simp[h0,h1,h2]
  rw[hb];exact VB W E V D h0 h1 h2
 by_cases h3:2≤V
 rotate_left
 ·have hb:xX W E V D=false:=by unfold xX;simp[h0,h1,h2,h3]
  rw[hb];exact VA W E V D h0 h1 h2 h3
 by_cases h4:V≤4096
 rotate_left
 ·have hb:xX W E V D=false:=by unfold xX;simp[h0,h1,h2,h3,h4]
  rw[hb];exact Vz W E V D h0 h1 h2 h3 h4
 by_cases h5:0≤D
 rotate_left
 ·have hb:xX W E V D=false:=by unfold xX;simp[h0,h1,h2,h3,h4,h5]
  rw[hb];exact Vy W E V D h0 h1 h2 h3 h4 h5
 by_cases h6:D≤16384
 rotate_left
 ·have hb:xX W E V D=false:=by unfold xX;simp[h0,h1,h2,h3,h4,h5,h6]
  rw[hb];exact Vx W E V D h0 h1 h2 h3 h4 h5 h6
 have hb:xX W E V D=true:=by unfold xX;simp[h0,h1,h2,h3,h4,h5,h6]
 rw[hb];exact Vw W E V D h0 h1 h2 h3 h4 h5 h6
theorem N8 (W E V D:Int) (h:xX W E V D=false):
  Calls Tryz.prog 14 #[.agg #[.int .i64 W,.int .i64 E,.int .i64 V,.int .i64 D],.int .u64 0] w λe w'=>e=.returned (.tuple #[.pointer none,.int .i64 2])∧Off [] w w':=by
 obtain⟨W0,hW0⟩:∃X,w.alloc (.cells #[.int .i64 W,.int .i64 E,.int .i64 V,.int .i64 D] 23)=X:=⟨_,rfl⟩;have O0:=jh (show Off [] w W0 by rw[←hW0];exact(Off.refl _ _).alloc _);have HC:=zP (w:=W0) W E V D;rw[h] at HC;have HC:=jh HC;have HW0:=jh hW0;clear hW0 h;go_in;go_wp2_with fail;rw[HW0.out];apply mO HC;rintro e w1 ⟨rfl,o1⟩;have O1:=jh (O0.out.trans o1 λj hj=>by cases hj);clear o1 HC;go_wp2;go_ret2;exact⟨rfl,O1.out⟩
theorem ahr (w:World):(binOp .neq 95 (.agg #[.int .i64 0,.int .i64 0,.int .i64 0,.int .i64 0]) (.agg #[.int .i64 0,.int .i64 0,.int .i64 0,.int .i64 0])).run Tryz.prog w=.ok (.bool false) w:=by kernel_rfl
end
section
variable {w:World} {c:Cf}
theorem N7 (hc:Xa c) (hd:0≤c.dr∧c.dr≤16384):
  Calls Tryz.prog 14 #[.agg #[.int .i64 c.win,.int .i64 (c.E:Nat),.int .i64 (c.V:Nat),.int .i64 c.dr],.int .u64 0] w λe w'=>∃G,e=.returned (.tuple #[.pointer (some ⟨G.b,0,none⟩),.int .i64 0])∧qW w' G c 0 0 0 st0∧Bo [] (G.bl c.E) w w':=by
 have hcb:xX c.win c.E c.V c.dr=true:=by
  have h1:=hc.win;have h2:=hc.E;have h3:=hc.V;unfold BZ at h1;unfold xX;rw[dP (show 1≤c.win by omega),dP (show 1≤(c.E:Int) by omega),dP (show(c.E:Int)≤16384 by omega),dP (show 2≤(c.V:Int) by omega),dP (show(c.V:Int)≤4096 by omega),dP hd.1,dP hd.2];rfl
 obtain⟨B,hB⟩:=nE w.heap.size;obtain⟨W0,hW0⟩:∃X,w.alloc (.cells #[.int .i64 c.win,.int .i64 c.E,.int .i64 c.V,.int .i64 c.dr] 23)=X:=⟨_,rfl⟩
 have o0:Off [] w W0:=by rw[←hW0];exact(Off.refl _ _).alloc _
 have r0:Row W0 B 4 (λi=>(#[Value.int .i64 c.win,.int .i64 c.E,.int .i64 c.V,.int .i64 c.dr]:Array Value).getD i undef):=by
  rw[←hW0,←hB];exact Row.lit _ _ _ (Nat.le_refl _) lC
 have a0:W0.cell? ⟨B,0,none⟩=some (.int .i64 c.win):=r0.c 0;have a1:W0.cell? ⟨B,1,none⟩=some (.int .i64 c.E):=r0.c 1;have a2:W0.cell? ⟨B,2,none⟩=some (.int .i64 c.V):=r0.c 2;have a3:W0.cell? ⟨B,3,none⟩=some (.int .i64 c.dr):=r0.c 3;have HC:=zP (w:=W0) c.win c.E c.V c.dr;rw[hcb] at HC;have HC:=jh HC;have HW0:=jh hW0;have HB:=jh hB;have O0:=jh o0;have R0:=jh r0;have HCF:=jh hc;rw[←hW0] at a0 a1 a2 a3;clear hW0 hB o0 r0 hcb hd hc;go_in;go_wp2_with fail;rw[HW0.out,HB.out];apply mO HC;rintro e w1 ⟨rfl,o1⟩;have r1:=R0.out.of_block (o1.block B R0.out.lt sj);have b0:w1.cell? ⟨B,0,none⟩=some (.int .i64 c.win):=r1.c 0;have b1:w1.cell? ⟨B,1,none⟩=some (.int .i64 c.E):=r1.c 1;have b2:w1.cell? ⟨B,2,none⟩=some (.int .i64 c.V):=r1.c 2;have b3:w1.cell? ⟨B,3,none⟩=some (.int .i64 c.dr):=r1.c 3;have O1:=jh (O0.out.trans o1 λj hj=>by cases hj);have R1:=jh r1;clear o1 HC r1 a0 a1 a2 a3;have LB:=R1.out.lt;obtain⟨A,hA⟩:=nE w1.heap.size;obtain⟨D,hD⟩:=nE (A+1);obtain⟨X1,hX1⟩:∃X,(w1.alloc (.cells #[.int .i64 0,.int .i64 0,.int .i64 0,.int .i64 0] 95)).alloc (.cells #[.int .i64 c.win,.int .i64 c.E,.int .i64 c.V,.int .i64 c.dr,.pointer none,.pointer none,.pointer none,.pointer none,.int .u64 0,.int .u64 0] 60)=X:=⟨_,rfl⟩
 have ra1:Row X1 A 4 (λ_=>.int .i64 0):=by
  rw[←hX1,←hA];exact(Row.lit (n:=4) (f:=λ_=>.int .i64 0) w1 #[.int .i64 0,.int .i64 0,.int .i64 0,.int .i64 0] 95 (Nat.le_refl _) lC).alloc _
 have rd1:Row X1 D 10 (λi=>(#[Value.int .i64 c.win,.int .i64 c.E,.int .i64 c.V,.int .i64 c.dr,.pointer none,.pointer none,.pointer none,.pointer none,.int .u64 0,.int .u64 0]:Array Value).getD i undef):=by
  have:=Row.lit (n:=10) (f:=(λi=>(#[Value.int .i64 c.win,.int .i64 c.E,.int .i64 c.V,.int .i64 c.dr,.pointer none,.pointer none,.pointer none,.pointer none,.int .u64 0,.int .u64 0]:Array Value).getD i undef)) (w1.alloc (.cells #[.int .i64 0,.int .i64 0,.int .i64 0,.int .i64 0] 95)) #[.int .i64 c.win,.int .i64 c.E,.int .i64 c.V,.int .i64 c.dr,.pointer none,.pointer none,.pointer none,.pointer none,.int .u64 0,.int .u64 0] 60 (Nat.le_refl _) lC;rw[←hX1];rw[World.size_alloc,hA,hD] at this;exact this
 have o1:Off [] w X1:=by rw[←hX1];exact(O1.out.alloc _).alloc _
 have rb1:Row X1 B 4 (λi=>(#[Value.int .i64 c.win,.int .i64 c.E,.int .i64 c.V,.int .i64 c.dr]:Array Value).getD i undef):=by rw[←hX1];exact(R1.out.alloc _).alloc _
 have hsX:X1.heap.size=D+1:=by rw[←hX1];simp;omega
 have HP:=jh (show w.heap.size≤B∧B<A∧A<D∧w.heap.size≤A from⟨oC HB.out,om,om,oC O1.out.size⟩);have bb0:X1.cell? ⟨B,0,none⟩=some (.int .i64 c.win):=rb1.c 0;rw[←hX1] at bb0;have NQ:=jh hX1;have OX1:=jh o1;have RA1:=jh ra1;have RD1:=jh rd1;have RB1:=jh rb1;have HSX:=jh hsX;have HK:=jh (MW HCF.out.win X1);have HAD:=jh (And.intro hA hD);clear o1 ra1 rd1 rb1 hX1 hA hD hsX;have LB:=R1.out.lt;go_wp2_with fail;clear LB;rw[NQ.out,HAD.out.1,HAD.out.2];apply mO HK;rintro e w2 ⟨rfl,ck2,o2⟩;obtain⟨CB,hCB⟩:=nE X1.heap.size;rw[hCB] at ck2⊢;have HCB:=jh hCB;have CK2:=jh ck2;have O2:=jh (show Bo [] [] X1 w2 from⟨o2,λ_ hj=>nomatch hj⟩);clear ck2 o2 hCB HK b0 b1 b2 b3 bb0;have ra2:=RA1.out.of_block (O2.out.off.block A RA1.out.lt sj);have rd2:=RD1.out.of_block (O2.out.off.block D RD1.out.lt sj);have rb2:=RB1.out.of_block (O2.out.off.block B RB1.out.lt sj);have UG:=rd2.c 4;have fd2:=rd2.frozen 4;have ZP:A≠D:=oC HP.out;have UQ:Row (w2.setCell ⟨D,4,none⟩ (.pointer (some ⟨CB,0,none⟩))) A 4 (λ_=>.int .i64 0):=ra2.setOther (λe=>ZP e) _;have sa2:(w2.setCell ⟨D,4,none⟩ (.pointer (some ⟨CB,0,none⟩))).cell? ⟨A,0,none⟩=some (.int .i64 0):=UQ.c 0;have fa2:=UQ.frozen 0;obtain⟨X2,hX2⟩:=nE ((w2.setCell ⟨D,4,none⟩ (.pointer (some ⟨CB,0,none⟩))).setCell ⟨A,0,none⟩ (.int .i64 0));have RA2:Hid (Row X2 A 4 (λ_=>.int .i64 0)):=jh (by rw[←hX2];exact(UQ.set 0 (.int .i64 0)).congr λj _=>by split<;>rfl)
 have RD2:Hid (Row X2 D 10 (λi=>(#[Value.int .i64 c.win,.int .i64 c.E,.int .i64 c.V,.int .i64 c.dr,.pointer (some ⟨CB,0,none⟩),.pointer none,.pointer none,.pointer none,.int .u64 0,.int .u64 0]:Array Value).getD i undef)):=jh (by
  rw[←hX2]
  exact(((rd2.set 4 (.pointer (some ⟨CB,0,none⟩))).setOther (λe=>ZP e.symm) _).congr lC))
 have ZL:B≠A∧B≠D:=oC HP.out;have RB2:Hid (Row X2 B 4 (λi=>(#[Value.int .i64 c.win,.int .i64 c.E,.int .i64 c.V,.int .i64 c.dr]:Array Value).getD i undef)):=jh (by rw[←hX2];exact(rb2.setOther (λe=>ZL.2 e) _).setOther (λe=>ZL.1 e) _)
 have OX2:Hid (Off [] w X2):=jh (by
  rw[←hX2]
  exact((OX1.out.trans O2.out.off λj hj=>by cases hj).bZ (p:=⟨D,4,none⟩) (by have:=HP.out;show w.heap.size≤D;omega) _).bZ (p:=⟨A,0,none⟩) HP.out.2.2.2 _)
 have HS2:=jh (show X2.heap.size=w2.heap.size by rw[←hX2];simp[World.setCell])
 have ajK:Hid (∀j,j≠D→j≠A→X2.heap[j]?=w2.heap[j]?):=jh λj h1 h2=>by rw[←hX2];exact(aC j h2).trans (aC j h1)
 have Ue:=jh hX2;have e1:X2.cell? ⟨B,1,none⟩=some (.int .i64 c.E):=RB2.out.c 1;have e2:X2.cell? ⟨B,2,none⟩=some (.int .i64 c.V):=RB2.out.c 2;rw[←hX2] at e1 e2;have HSF:=jh (KZ X2 HCF.out.E.2 HCF.out.V.2);clear ra2 rd2 rb2 ZP UQ hX2 ZL;go_wp2_with fail;rw[Ue.out];apply mO HSF;rintro e w3 ⟨F,N,rfl,Uu,Ai⟩;have ST3:=jh Uu;have O3:=jh Ai;clear Uu Ai HSF UG fd2 sa2 fa2 e1 e2;have ra3:=RA2.out.of_block (O3.out.off.block A RA2.out.lt sj);have rd3:=RD2.out.of_block (O3.out.off.block D RD2.out.lt sj);have rb3:=RB2.out.of_block (O3.out.off.block B RB2.out.lt sj);have sd3:=rd3.c 5;have fd3:=rd3.frozen 5;have ZO:A≠D:=oC HP.out;have UO:Row (w3.setCell ⟨D,5,none⟩ (.pointer (some ⟨F.b,0,none⟩))) A 4 (λ_=>.int .i64 0):=ra3.setOther (λe=>ZO e) _;have sa3:(w3.setCell ⟨D,5,none⟩ (.pointer (some ⟨F.b,0,none⟩))).cell? ⟨A,1,none⟩=some (.int .i64 0):=UO.c 1;have fa3:=UO.frozen 1;obtain⟨X3,Cu⟩:=nE ((w3.setCell ⟨D,5,none⟩ (.pointer (some ⟨F.b,0,none⟩))).setCell ⟨A,1,none⟩ (.int .i64 0));have RA3:Hid (Row X3 A 4 (λ_=>.int .i64 0)):=jh (by rw[←Cu];exact(UO.set 1 (.int .i64 0)).congr λj _=>by split<;>rfl)
 have RD3:Hid (Row X3 D 10 (λi=>(#[Value.int .i64 c.win,.int .i64 c.E,.int .i64 c.V,.int .i64 c.dr,.pointer (some ⟨CB,0,none⟩),.pointer (some ⟨F.b,0,none⟩),.pointer none,.pointer none,.int .u64 0,.int .u64 0]:Array Value).getD i undef)):=jh (by
  rw[←Cu]
  exact(((rd3.set 5 (.pointer (some ⟨F.b,0,none⟩))).setOther (λe=>ZO e.symm) _).congr lC))
 have ZK:B≠A∧B≠D:=oC HP.out;have RB3:Hid (Row X3 B 4 (λi=>(#[Value.int .i64 c.win,.int .i64 c.E,.int .i64 c.V,.int .i64 c.dr]:Array Value).getD i undef)):=jh (by rw[←Cu];exact(rb3.setOther (λe=>ZK.2 e) _).setOther (λe=>ZK.1 e) _)
 have OX3:Hid (Off [] w X3):=jh (by
  rw[←Cu]
  exact((OX2.out.trans O3.out.off λj hj=>by cases hj).bZ (p:=⟨D,5,none⟩) (by have:=HP.out;show w.heap.size≤D;omega) _).bZ (p:=⟨A,1,none⟩) HP.out.2.2.2 _)
 have EZ:=jh (show X3.heap.size=w3.heap.size by rw[←Cu];simp[World.setCell])
 have ajJ:Hid (∀j,j≠D→j≠A→X3.heap[j]?=w3.heap[j]?):=jh λj h1 h2=>by rw[←Cu];exact(aC j h2).trans (aC j h1)
 have HX3:=jh Cu;have e1:X3.cell? ⟨B,1,none⟩=some (.int .i64 c.E):=RB3.out.c 1;rw[←Cu] at e1;have HEN:=jh (RO (S:=c.E) X3 (oC HCF.out.E));clear ra3 rd3 rb3 ZO UO Cu ZK;go_wp2_with fail;rw[HX3.out];apply mO HEN;rintro e w4 ⟨eb,eh,rfl,sc4,Cz⟩;have SC4:=jh sc4;have O4:=jh Cz;clear sc4 Cz HEN sd3 fd3 sa3 fa3 e1;have ra4:=RA3.out.of_block (O4.out.off.block A RA3.out.lt sj);have rd4:=RD3.out.of_block (O4.out.off.block D RD3.out.lt sj);have Fj:=RB3.out.of_block (O4.out.off.block B RB3.out.lt sj);have sd4:=rd4.c 6;have fd4:=rd4.frozen 6;have ZN:A≠D:=oC HP.out;have UN:Row (w4.setCell ⟨D,6,none⟩ (.pointer (some ⟨eb,0,none⟩))) A 4 (λ_=>.int .i64 0):=ra4.setOther (λe=>ZN e) _;have sa4:(w4.setCell ⟨D,6,none⟩ (.pointer (some ⟨eb,0,none⟩))).cell? ⟨A,2,none⟩=some (.int .i64 0):=UN.c 2;have fa4:=UN.frozen 2;obtain⟨X4,BG⟩:=nE ((w4.setCell ⟨D,6,none⟩ (.pointer (some ⟨eb,0,none⟩))).setCell ⟨A,2,none⟩ (.int .i64 0));have RA4:Hid (Row X4 A 4 (λ_=>.int .i64 0)):=jh (by rw[←BG];exact(UN.set 2 (.int .i64 0)).congr λj _=>by split<;>rfl)
 have RD4:Hid (Row X4 D 10 (λi=>(#[Value.int .i64 c.win,.int .i64 c.E,.int .i64 c.V,.int .i64 c.dr,.pointer (some ⟨CB,0,none⟩),.pointer (some ⟨F.b,0,none⟩),.pointer (some ⟨eb,0,none⟩),.pointer none,.int .u64 0,.int .u64 0]:Array Value).getD i undef)):=jh (by
  rw[←BG]
  exact(((rd4.set 6 (.pointer (some ⟨eb,0,none⟩))).setOther (λe=>ZN e.symm) _).congr lC))
 have ZJ:B≠A∧B≠D:=oC HP.out;have RB4:Hid (Row X4 B 4 (λi=>(#[Value.int .i64 c.win,.int .i64 c.E,.int .i64 c.V,.int .i64 c.dr]:Array Value).getD i undef)):=jh (by rw[←BG];exact(Fj.setOther (λe=>ZJ.2 e) _).setOther (λe=>ZJ.1 e) _)
 have OX4:Hid (Off [] w X4):=jh (by
  rw[←BG]
  exact((OX3.out.trans O4.out.off λj hj=>by cases hj).bZ (p:=⟨D,6,none⟩) (by have:=HP.out;show w.heap.size≤D;omega) _).bZ (p:=⟨A,2,none⟩) HP.out.2.2.2 _)
 have NR:=jh (show X4.heap.size=w4.heap.size by rw[←BG];simp[World.setCell])
 have ajI:Hid (∀j,j≠D→j≠A→X4.heap[j]?=w4.heap[j]?):=jh λj h1 h2=>by rw[←BG];exact(aC j h2).trans (aC j h1)
 have HX4:=jh BG;have e1:X4.cell? ⟨B,1,none⟩=some (.int .i64 c.E):=RB4.out.c 1;have e2:X4.cell? ⟨B,2,none⟩=some (.int .i64 c.V):=RB4.out.c 2;rw[←BG] at e1 e2;have HFN:=jh (RA (S:=c.E) (V:=c.V) X4 HCF.out.V.2 HCF.out.E.2);clear ra4 rd4 Fj ZN UN BG ZJ;go_wp2_with fail;rw[HX4.out];apply mO HFN;rintro e w5 ⟨FF,rfl,fo5,ok5,Ub⟩;have FO5:=jh fo5;have O5:=jh Ub;have OK5:=jh ok5;clear fo5 Ub ok5 HFN sd4 fd4 sa4 fa4 e1 e2;have ra5:=RA4.out.of_block (O5.out.off.block A RA4.out.lt sj);have rd5:=RD4.out.of_block (O5.out.off.block D RD4.out.lt sj);have rb5:=RB4.out.of_block (O5.out.off.block B RB4.out.lt sj);have sd5:=rd5.c 7;have fd5:=rd5.frozen 7;have ZM:A≠D:=oC HP.out;have UM:Row (w5.setCell ⟨D,7,none⟩ (.pointer (some ⟨FF.b,0,none⟩))) A 4 (λ_=>.int .i64 0):=ra5.setOther (λe=>ZM e) _;have sa5:(w5.setCell ⟨D,7,none⟩ (.pointer (some ⟨FF.b,0,none⟩))).cell? ⟨A,3,none⟩=some (.int .i64 0):=UM.c 3;have fa5:=UM.frozen 3;obtain⟨X5,Cr⟩:=nE ((w5.setCell ⟨D,7,none⟩ (.pointer (some ⟨FF.b,0,none⟩))).setCell ⟨A,3,none⟩ (.int .i64 0));have RA5:Hid (Row X5 A 4 (λ_=>.int .i64 0)):=jh (by rw[←Cr];exact(UM.set 3 (.int .i64 0)).congr λj _=>by split<;>rfl)
 have RD5:Hid (Row X5 D 10 (λi=>(#[Value.int .i64 c.win,.int .i64 c.E,.int .i64 c.V,.int .i64 c.dr,.pointer (some ⟨CB,0,none⟩),.pointer (some ⟨F.b,0,none⟩),.pointer (some ⟨eb,0,none⟩),.pointer (some ⟨FF.b,0,none⟩),.int .u64 0,.int .u64 0]:Array Value).getD i undef)):=jh (by
  rw[←Cr]
  exact(((rd5.set 7 (.pointer (some ⟨FF.b,0,none⟩))).setOther (λe=>ZM e.symm) _).congr lC))
 have ZI:B≠A∧B≠D:=oC HP.out;have RB5:Hid (Row X5 B 4 (λi=>(#[Value.int .i64 c.win,.int .i64 c.E,.int .i64 c.V,.int .i64 c.dr]:Array Value).getD i undef)):=jh (by rw[←Cr];exact(rb5.setOther (λe=>ZI.2 e) _).setOther (λe=>ZI.1 e) _)
 have OX5:Hid (Off [] w X5):=jh (by
  rw[←Cr]
  exact((OX4.out.trans O5.out.off λj hj=>by cases hj).bZ (p:=⟨D,7,none⟩) (by have:=HP.out;show w.heap.size≤D;omega) _).bZ (p:=⟨A,3,none⟩) HP.out.2.2.2 _)
 have Ns:=jh (show X5.heap.size=w5.heap.size by rw[←Cr];simp[World.setCell])
 have ajH:Hid (∀j,j≠D→j≠A→X5.heap[j]?=w5.heap[j]?):=jh λj h1 h2=>by rw[←Cr];exact(aC j h2).trans (aC j h1)
 have XP:=jh Cr;have g0:X5.cell? ⟨A,0,none⟩=some (.int .i64 0):=RA5.out.c 0;have g1:X5.cell? ⟨A,1,none⟩=some (.int .i64 0):=RA5.out.c 1;have g2:X5.cell? ⟨A,2,none⟩=some (.int .i64 0):=RA5.out.c 2;have g3:X5.cell? ⟨A,3,none⟩=some (.int .i64 0):=RA5.out.c 3;rw[←Cr] at g0 g1 g2 g3;have hn4:=ahr;clear ra5 rd5 rb5 ZM UM Cr ZI;go_wp2;go_ret2;rw[XP.out];have hp:=HP.out;have z1:=HSX.out;have z1':=HCB.out;have z2:=HS2.out;have z3:=EZ.out;have z4:=NR.out;have z5:=Ns.out;have y2:=Row.lt CK2.out;have y3:=O3.out.off.size;have y4:=O4.out.off.size;have y5:=O5.out.off.size;have K4:∀j<w5.heap.size,j≠D→j≠A→X5.heap[j]?=w5.heap[j]?:=λj _ h2 h3=>ajH.out j h2 h3;have K3:∀j<w4.heap.size,j≠D→j≠A→X5.heap[j]?=w4.heap[j]?:=λj h1 h2 h3=>(K4 j om h2 h3).trans ((O5.out.off.block j om sj).trans (ajI.out j h2 h3));have K2:∀j<w3.heap.size,j≠D→j≠A→X5.heap[j]?=w3.heap[j]?:=λj h1 h2 h3=>(K3 j om h2 h3).trans ((O4.out.off.block j om sj).trans (ajJ.out j h2 h3));have K1:∀j<w2.heap.size,j≠D→j≠A→X5.heap[j]?=w2.heap[j]?:=λj h1 h2 h3=>(K2 j om h2 h3).trans ((O3.out.off.block j om sj).trans (ajK.out j h2 h3));have gF:∀j∈F.bl,X2.heap.size≤j∧j<w3.heap.size:=λj hj=>⟨(O3.out.fQ j hj).elim (λe=>nomatch e) id,ST3.out.lt j hj⟩;have gE:∀j∈eb::eh.bl c.E,X3.heap.size≤j∧j<w4.heap.size:=λj hj=>⟨(O4.out.fQ j hj).elim (λe=>nomatch e) id,SC4.out.lt j hj⟩;have gO:∀j∈FF.bl c.E,X4.heap.size≤j∧j<w5.heap.size:=λj hj=>⟨(O5.out.fQ j hj).elim (λe=>nomatch e) id,FO5.out.lt j hj⟩
 have gG:∀i j,j∈(⟨D,CB,F,eb,eh,FF⟩:dX).aP c.E i→(i=0∧j=D)∨(i=1∧j=CB)∨(i=2∧X2.heap.size≤j∧j<w3.heap.size)∨(i=3∧X3.heap.size≤j∧j<w4.heap.size)∨(i=4∧X4.heap.size≤j∧j<w5.heap.size):=λi j hj=>by
  match i,hj with
  |0,hj=>exact .inl ⟨rfl,by simpa [dX.aP] using hj⟩
  |1,hj=>exact .inr (.inl ⟨rfl,by simpa [dX.aP] using hj⟩)
  |2,hj=>exact .inr (.inr (.inl ⟨rfl,gF j hj⟩))
  |3,hj=>exact .inr (.inr (.inr (.inl ⟨rfl,gE j hj⟩)))
  |4,hj=>exact .inr (.inr (.inr (.inr ⟨rfl,gO j hj⟩)))
  |n+5,hj=>cases hj
 refine⟨⟨D,CB,F,eb,eh,FF⟩,rfl,⟨fs0,⟨?_,Row.of_block CK2.out (K1 CB om om om),⟨N,0,_,ST3.out.keep λj hj=>K2 j (oC (gF j hj)) (oC (gF j hj)) (oC (gF j hj))⟩,⟨[],SC4.out.keep λj hj=>K3 j (oC (gE j hj)) (oC (gE j hj)) (oC (gE j hj)),λe=>⟨(λh=>nomatch h),(λh=>nomatch h.1)⟩⟩,FO5.out.keep λj hj=>K4 j (oC (gO j hj)) (oC (gO j hj)) (oC (gO j hj)),?_⟩,⟨HCF.out,⟨ST3.out.ok,OK5.out,λk=>⟨(λh=>nomatch h),(λh=>nomatch h)⟩,(λk hk=>nomatch hk),(λk hk=>nomatch hk),(λk hk=>nomatch hk)⟩,(λk hk=>nomatch hk)⟩⟩,⟨OX5.out,λj hj=>?_⟩⟩
 ·refine RD5.out.congr λi hi=>?_
  match i,hi with
  |0,_ |1,_ |2,_ |3,_ |4,_ |5,_ |6,_ |7,_ |8,_ |9,_=>rfl
  |k+10,e=>exact absurd e om
 ·intro i j hij x hx hy;have h1:=gG i x hx;have h2:=gG j x hy;omega
 ·right
  obtain⟨i,_,hx⟩:=bP.1 hj;have h1:=gG i j hx;omega
def ai1 (w:World) (W E V D:Int) (e:Ending) (w':World):Prop:=
 e=.returned (.tuple #[.pointer none,.int .i64 2])∧Off [] w w'∧xX W E V D=false∨
 ∃(c:Cf) (G:dX),e=.returned (.tuple #[.pointer (some ⟨G.b,0,none⟩),.int .i64 0])∧qW w' G c 0 0 0 st0∧Bo [] (G.bl c.E) w w'∧c.win=W∧(c.E:Int)=E∧(c.V:Int)=V
theorem CU (w:World) (W E V D:Int) (hW:dR W):
  Calls Tryz.prog 4 #[.agg #[.int .i64 W,.int .i64 E,.int .i64 V,.int .i64 D]] w (ai1 w W E V D):=by
 obtain⟨W0,hW0⟩:∃X,w.alloc (.cells #[.int .i64 W,.int .i64 E,.int .i64 V,.int .i64 D] 23)=X:=⟨_,rfl⟩
 have o0:Off [] w W0:=by rw[←hW0];exact(Off.refl _ _).alloc _
 cases hb:xX W E V D with
 |false=>
  have HF:=jh (N8 (w:=W0) W E V D hb);have HW0:=jh hW0;have O0:=jh o0;have HB:=jh hb;clear hW0 o0 hb;go_in;go_wp2_with fail;rw[HW0.out];apply mO HF;rintro e w1 ⟨rfl,o1⟩;have O1:=jh (O0.out.trans o1 λj hj=>by cases hj);clear o1 HF;go_wp2;go_ret2;exact .inl ⟨rfl,O1.out,HB.out⟩
 |true=>
  obtain⟨c,hc,hd,rfl,rfl,rfl,rfl⟩:∃c:Cf,Xa c∧(0≤c.dr∧c.dr≤16384)∧c.win=W∧(c.E:Int)=E∧(c.V:Int)=V∧c.dr=D:=by
   unfold xX at hb;simp only[Bool.and_eq_true,decide_eq_true_eq] at hb;obtain⟨h0,h1,h2,h3,h4,h5,h6⟩:=hb;refine⟨⟨W,E.toNat,V.toNat,D⟩,⟨⟨h0,hW.2⟩,⟨?_,?_⟩,⟨?_,?_⟩⟩,⟨h5,h6⟩,rfl,?_,?_,rfl⟩
   ·show 1≤E.toNat;omega
   ·show E.toNat≤16384;omega
   ·show 2≤V.toNat;omega
   ·show V.toNat≤4096;omega
   ·show((E.toNat:Nat):Int)=E;omega
   ·show((V.toNat:Nat):Int)=V;omega
  have HF:=jh (N7 (w:=W0) hc hd);have HW0:=jh hW0;have O0:=jh o0;clear hW0 o0 hb hc hd hW;go_in;go_wp2_with fail;rw[HW0.out];apply mO HF;rintro e w1 ⟨G,rfl,m1,b1⟩;have M1:=jh m1;have B1:=jh (show Bo [] (G.bl c.E) w w1 from⟨O0.out.trans b1.off (λj hj=>nomatch hj),λj hj=>(b1.fQ j hj).imp id λe=>Nat.le_trans O0.out.size e⟩);clear m1 b1 HF;go_wp2;go_ret2;exact .inr ⟨c,G,rfl,M1.out,B1.out,rfl,rfl,rfl⟩
end
section
variable {w w':World} {F:ku} {S V:Nat} {f:Fs} {hl:Nat→Bool}
theorem Ms (h:gD w F S V hl f) {a b:Nat} (ha:a<V) (hb:b<V) (hS:S+V≤65535):
  Calls Tryz.prog 31 #[.pointer (some ⟨F.b,0,none⟩),.int .i64 (a:Nat),.int .i64 (b:Nat)] w λe w'=>(∃r:Bool,e=.returned (.bool r)∧(r=true↔cZ (tQ S f) (S+a+1) (S+b+1)))∧gD w' F S V hl f∧Bo (F.bl S) (F.bl S) w w':=by
 obtain⟨PA,JH⟩:=nE (S+a);obtain⟨PB,Rp⟩:=nE (S+b);have wpa:(S:Int)+(a:Int)=(PA:Int):=om;have wpb:(S:Int)+(b:Int)=(PB:Int):=om;have bp:(0:Int)≤PA∧(PA:Int)≤65535:=om;have bq:(0:Int)≤PB∧(PB:Int)≤65535:=om;have xa:IntKind.i64.wrap (PA:Int)=(PA:Int):=IntWalk.i64_in _ om;have xb:IntKind.i64.wrap (PB:Int)=(PB:Int):=IntWalk.i64_in _ om;have hd:gD w.drew F S V hl f:=h.keep λ_ _=>rfl;have HA:=jh (oh hd ha om);have HB:=jh (oh hd hb om);have HS:w.drew.cell? ⟨F.b,1,none⟩=some (.int .i64 S)∧w.drew.cell? ⟨F.b,2,none⟩=some (.pointer (some ⟨F.lb,0,none⟩)):=⟨hd.c1,hd.c2⟩;have H:=jh h;have HP:=jh (And.intro JH Rp);have HL:=jh (And.intro ha (And.intro hb hS));clear h JH Rp ha hb hS hd;go_in;go_wp2;refine aj (λw'=>w'.cell? ⟨F.b,1,none⟩=some (.int .i64 S)∧w'.cell? ⟨F.b,2,none⟩=some (.pointer (some ⟨F.lb,0,none⟩))) (by kernel_rfl) ?_;refine tC 0 ?_;refine tC 1 ?_
 try simp only[sD]
 refine rC 2 λK hK=>?_;go_simp;apply mO HA;rintro e w1 ⟨rfl,rfl⟩;dsimp only;refine hK.out _ _ HS (λHS=>?_);clear hK HA;refine tC 3 ?_;refine tC 4 ?_;refine tC 5 ?_
 try simp only[sD]
 refine rC 6 λK hK=>?_;go_simp;apply mO HB;rintro e w1 ⟨rfl,rfl⟩;dsimp only;refine hK.out _ _ HS (λHS=>?_);clear hK HB;refine tC 7 ?_;refine tC 8 ?_;refine tC 9 ?_;refine tC 10 ?_;refine tC 11 ?_;refine tC 12 ?_;refine tC 13 ?_;refine tC 14 ?_;refine tC 15 ?_;refine tC 16 ?_;refine tC 17 ?_;refine tC 18 ?_;refine tC 19 ?_;refine tC 20 ?_;refine tC 21 ?_;refine tC 22 ?_;refine tC 23 ?_;refine tC 24 ?_;refine tC 25 ?_
 try simp only[sD]
 refine rC 26 λK hK=>?_;go_simp;obtain⟨key,ed,lc,kt,kv⟩:=H.out.lc;refine(lJ (lc.keep (w':=w.drew) λ_ _=>rfl) (a:=PA) (c:=PB) (oD HP.out HL.out) (oD HP.out HL.out) (oC HL.out)).mono ?_;rintro e w2 ⟨⟨r,rfl,hr⟩,l2,o2⟩;have h2:=H.out.conn kt kv l2 ((Off.refl [F.lg] w).drew.trans o2 λj hj=>.inl hj);have HR:=jh hr;have H2:=jh h2;have b2:Hid (Bo (F.bl S) (F.bl S) w w2):=jh ⟨((Off.refl [F.lg] w).drew.trans o2 λj hj=>.inl hj).mono λj hj=>.inl (by simp at hj;simp[ku.bl,hj]),λ_ hj=>.inl hj⟩;refine hK.out _ _ ⟨h2.c1,h2.c2⟩ (λHS=>?_);clear hK l2 o2 lc kt kv h2 hr;refine tC 27 ?_;refine tC 28 ?_
 try simp only[sD]
 refine dD ⟨rfl,?_⟩
 go_wp2
 go_ret;exact⟨⟨r,rfl,by rw[HP.out.1,HP.out.2];exact HR.out⟩,H2.out,b2.out⟩
end
section
variable {w w':World} {G:dX} {c:Cf} {nw ex:Int} {ad:Nat} {s:St}
theorem N9 (h:qW w G c nw ad ex s) (u v:Int):
  Calls Tryz.prog 11 #[.pointer (some ⟨G.b,0,none⟩),.int .u64 u,.int .u64 v] w λe w'=>qW w' G c nw ad ex s∧Bo (G.bl c.E) (G.bl c.E) w w'∧((¬(s.has u∧s.has v)∧e=.returned (.tuple #[.bool false,.int .i64 13]))∨
   (s.has u∧s.has v∧∃r:Bool,(r=true↔cZ (RL (s.U.map s.rc)) u v)∧e=.returned (.tuple #[.bool r,.int .i64 0]))):=by
 obtain⟨f,k,ws⟩:=h;have HE:=jh (zm k u v);have K:=jh k;have WS:=jh ws;clear k ws;go_in;go_wp2_with fail;apply mO HE;rintro e w1 ⟨ra,rb,rfl,ga,gb,o1⟩;have O1:=jh o1;have GA:=jh ga;have GB:=jh gb;clear o1 ga gb HE
 cases ra with
 |none=>
  unfold GX
  go_wp2
  go_ret2;exact⟨⟨f,K.out.off O1.out,WS.out⟩,Bo.aX O1.out,.inl ⟨λ⟨⟨i,h1,h2⟩,_⟩=>GA.out.no rfl i h1 h2,rfl⟩⟩
 |some a=>
  cases rb with
  |none=>
   unfold GX
   go_wp2
   go_ret2;exact⟨⟨f,K.out.off O1.out,WS.out⟩,Bo.aX O1.out,.inl ⟨λ⟨_,⟨i,h1,h2⟩⟩=>GB.out.no rfl i h1 h2,rfl⟩⟩
  |some b=>
   have k1:=K.out.off O1.out;have c7:=k1.c7
   obtain⟨hin,hin2⟩:a<c.V∧b<c.V:=by
    obtain⟨_,_,_,st⟩:=k1.st;obtain⟨_,_,_,ok⟩:=st.tb;exact⟨Nat.lt_of_lt_of_le (ok.lt a (GA.out.yes a rfl).1) ok.le,Nat.lt_of_lt_of_le (ok.lt b (GB.out.yes b rfl).1) ok.le⟩
   have HF:=jh (Ms k1.fo hin hin2 (oD WS.out.cf.E WS.out.cf.V));have K1:=jh k1;clear k1 hin hin2;unfold GX;go_wp2_with fail;apply mO HF;rintro e w2 ⟨⟨r,rfl,hr⟩,m2,CF⟩;obtain⟨k2,b2⟩:=K1.out.Ja m2 rfl CF;have HK2:=jh k2;have HB2:=jh b2;have HR:=jh hr;clear m2 CF k2 b2 c7 HF hr
   go_wp2
   go_ret2;refine⟨⟨f,HK2.out,WS.out⟩,(Bo.aX O1.out).trans HB2.out,.inr ⟨⟨a,GA.out.yes a rfl⟩,⟨b,GB.out.yes b rfl⟩,r,?_,rfl⟩⟩;rw[HR.out,WS.out.wn.fo.conn,WS.out.wn.conn (GA.out.yes a rfl).1 (GB.out.yes b rfl).1,(GA.out.yes a rfl).2,(GB.out.yes b rfl).2]
end
end Go.Proofs.YtpaeogglppampaaGreatDoor
