/- Lemmas of the proof. Conditions: as each one states. -/
import Derived.Test.YtpaeogglppampaaGreatDoorQn
import Derived.StillTailTactics
set_option maxRecDepth 100000
set_option maxHeartbeats 16000000
namespace Go.Proofs.YtpaeogglppampaaGreatDoor
open Go.RowKit
section
variable {w:World} {b g n cap i j:Nat} {σ:Sg} {li tt:Nat→Int} {ed:Int}
theorem uY (h:bT w b g n cap σ li tt ed) (hi:i≤n) (hj:j≤n):
  Calls Tryz.prog 163 #[.pointer (some ⟨b,0,none⟩),.int .i64 (i:Nat),.int .i64 (j:Nat)] w λe w'=>e=.returned (.bool (decide (Bf σ i j)))∧∃q,w'=w.drewN q:=by
 obtain⟨N,hN⟩:=nE (n+1);have c1:=h.c1;rw[hN] at c1;have ci:=h.nr.c4 hi;have cj:=h.nr.c4 hj;have bi:(0:Int)≤i∧(i:Int)<N:=om;have bj:(0:Int)≤j∧(j:Int)<N:=om;have HB:=jh (show Bf σ i j↔((σ i).key<(σ j).key∨(σ i).key=(σ j).key∧i<j) from Iff.rfl);generalize (σ i).key=x at ci HB;generalize (σ j).key=y at cj HB;clear h hi hj hN
 by_cases k1:x<y
 ·have d1:decide (x<y)=true:=dP k1;have HE:=jh (dP (HB.out.2 (.inl k1)));clear k1 HB;go_in;go_wp2
  go_quiet (fail)
  go_wp2;go_ret;exact⟨by rw[HE.out];rfl,_,rfl⟩
 ·have d1:decide (x<y)=false:=dF k1
  by_cases k2:x=y
  ·have d2:(x==y)=true:=by simp[k2]
   by_cases k3:i<j
   ·have d3:decide (i<j)=true:=dP k3;have HE:=jh (dP (HB.out.2 (.inr ⟨k2,k3⟩)));clear k1 k2 k3 HB;go_in;go_wp2
    go_quiet (fail)
    go_wp2;go_ret;exact⟨by rw[HE.out];rfl,_,rfl⟩
   ·have d3:decide (i<j)=false:=dF k3;have HE:=jh (dF (λe=>by rcases HB.out.1 e with e |⟨_,e⟩;exact k1 e;exact k3 e));clear k1 k2 k3 HB;go_in;go_wp2
    go_quiet (fail)
    go_wp2;go_ret;exact⟨by rw[HE.out];rfl,_,rfl⟩
  ·have d2:(x==y)=false:=by simp[k2]
   have HE:=jh (dF (λe=>by rcases HB.out.1 e with e |⟨e,_⟩;exact k1 e;exact k2 e));clear k1 k2 HB;go_in;go_wp2
   go_quiet (fail)
   go_wp2;go_ret;exact⟨by rw[HE.out];rfl,_,rfl⟩
theorem zk (n:Int) (h:-9223372036854775808≤n∧n≤9223372036854775807):wrap64 n=n:=by unfold wrap64;omega
theorem vS (σ:Sg) (i:Nat) (x:Nd) (h:x.key=(σ i).key) (j:Nat):((σ.put i x) j).key=(σ j).key:=by
 by_cases c:j=i
 ·rw[c,Sg.put_eq,h]
 ·rw[Sg.bE _ _ c]
theorem Sg.jE (σ:Sg) (i:Nat) (x y:Nd):(σ.put i x).put i y=σ.put i y:=by
 funext j;unfold Sg.put;split<;>rfl
def yL (σ:Sg) (i:Nat):Nat→Int
 |0=>1
 |1=>1+Fe σ (σ i).k0
 |_=>1+Fe σ (σ i).k0+Fe σ (σ i).k1
def Cj (σ:Sg) (i:Nat):Nat→Nat
 |0=>i
 |1=>GU σ i (σ i).k0
 |_=>GU σ (GU σ i (σ i).k0) (σ i).k1
theorem abY {n:Nat} {σ:Sg} {k:Nat} (h:k≠0→0≤(σ k).sz∧(σ k).sz≤n∧(σ k).fi≤n):0≤Fe σ k∧Fe σ k≤n:=by
 unfold Fe;split
 ·omega
 ·rename_i c;have:=h c;omega
theorem adV {n:Nat} {σ:Sg} {k m:Nat} (h:k≠0→0≤(σ k).sz∧(σ k).sz≤n∧(σ k).fi≤n) (hm:m≤n):GU σ m k≤n:=by
 unfold GU;split
 ·exact hm
 ·rename_i c
  split
  ·exact(h c).2.2
  ·exact hm
theorem Xi {n:Nat} {σ:Sg} {i:Nat} (R:kN n σ i) (r:Nat) (hr:r<2):1≤yL σ i r∧yL σ i r≤1+r*(n:Int):=by
 have h0:=abY R.s0;have:r=0∨r=1:=om
 rcases this with rfl |rfl
 ·simp only[yL];omega
 ·simp only[yL];omega
theorem Xj {n:Nat} {σ:Sg} {i:Nat} (R:kN n σ i) (r:Nat) (hr:r<2):Cj σ i r≤n:=by
 have:r=0∨r=1:=om
 rcases this with rfl |rfl
 ·exact R.le
 ·exact adV R.s0 R.le
theorem aU (h:bT w b g n cap σ li tt ed) (R:kN n σ i) (hn:n≤1000000):
  Calls Tryz.prog 122 #[.pointer (some ⟨b,0,none⟩),.int .i64 (i:Nat)] w λe w'=>e=.returned (.tuple #[])∧(∃iY,bT w' b g n cap (dM σ i) li iY ed)∧Off [g] w w':=by
 obtain⟨N,hN⟩:=nE (n+1);have c1:=h.c1;rw[hN] at c1;have hi:=R.le;have bi:(0:Int)≤i∧(i:Int)<N:=om;have k7:=h.nr.c7 hi;have f5:=h.nr.fz (i*9+5);have f6:=h.nr.fz (i*9+6);have f8:=h.nr.fz (i*9+8);have k5:=h.nr.c5 hi;have k6:=h.nr.c6 hi;have k8:=h.nr.c8 hi;have k0:=h.nr.c0 hi;have k1:=h.nr.c1 hi;obtain⟨w1,hw1⟩:=nE (((w.setCell ⟨g,i*9+5,none⟩ (.int .i64 1)).setCell ⟨g,i*9+6,none⟩ (.int .i64 i)).setCell ⟨g,i*9+8,none⟩ (.int .i64 (wrap64 (1+li i))))
 have HL:Hid (bT w1 b g n cap (σ.put i { σ i with sz:=1,fi:=i }) li (lV tt i (wrap64 (1+li i))) ed):=jh (by
  rw[←hw1];have hne:=h.ne;have h1:=((h.nr.s5 i 1).s6 i i).s8 i (wrap64 (1+li i));rw[Sg.put_eq,Sg.jE] at h1
  exact h.nodes ((((Off.refl [g] w).setCell sj _).setCell sj _).setCell sj _) h1)
 have HO:Hid (Off [g] w w1):=jh (by
  rw[←hw1];exact(((Off.refl [g] w).setCell sj _).setCell sj _).setCell sj _)
 obtain⟨q0,e0⟩:=nE ((σ i).k0);obtain⟨q1,e1⟩:=nE ((σ i).k1);rw[e0] at k0;rw[e1] at k1;have HR:=jh R;have HE0:=jh e0;have HE1:=jh e1;have HN:=jh hN;have Ug:=jh hn;have HW1:=jh hw1;clear h R e0 e1 hN hi hw1 hn;go_in;go_wp2_with fail;rw[HW1.out];clear HW1 c1 k7 f5 f6 f8 k5 k6 k8 k0 k1
 go_loopw [33] (λiv wr=>∃r:Nat,r≤2∧iv=.int .i64 r∧Hid (∃iY,bT wr b g n cap (σ.put i { σ i with sz:=yL σ i r,fi:=Cj σ i r }) li iY ed)∧Hid (Off [g] w wr)) (λiv _=>2-(intOf iv).toNat)
 case atStart=>exact⟨0,om,rfl,jh ⟨_,HL.out⟩,HO⟩
 case round=>
  clear HL HO;obtain⟨r,hr,rfl,HL,HO⟩:=hrel;obtain⟨iY,hL⟩:=HL.out;clear HL;have hr3:r=0∨r=1∨r=2:=om
  rcases hr3 with rfl |rfl |rfl
  ·obtain⟨Z,hZ⟩:=nE (yL σ i 0);obtain⟨M,hM⟩:=nE (Cj σ i 0);rw[hZ,hM] at hL;have HZ:=jh hZ;have HM:=jh hM
   have HZb:Hid (1≤Z∧Z≤1+0*(n:Int)):=jh (by
    rw[←hZ];exact Xi HR.out 0 om)
   have HMb:Hid (M≤n):=jh (by rw[←hM];exact Xj HR.out 0 om);have c1:=hL.c1;rw[HN.out] at c1;have k5:=hL.nr.c5 HR.out.le;have k6:=hL.nr.c6 HR.out.le;have k8:=hL.nr.c8 HR.out.le;rw[Sg.put_eq] at k5 k6;have f5:=hL.nr.fz (i*9+5);have f6:=hL.nr.fz (i*9+6);have f8:=hL.nr.fz (i*9+8);clear hZ hM
   have i0:∀w,(Instr.index 209 (.agg #[.int .i64 q0,.int .i64 q1]) (.int .i64 0)).run Tryz.prog w=.ok (.int .i64 q0) w:=λ_=>by kernel_rfl
   by_cases h0:q0=0
   ·have d0:(((q0:Nat):Int)==0)=true:=by simp[h0]
    have d0':(q0==0)=true:=by simp[h0]
    have Tz:Hid (∃iY,bT wr b g n cap (σ.put i { σ i with sz:=yL σ i 1,fi:=Cj σ i 1 }) li iY ed):=jh ⟨iY,by
     have e1:yL σ i 1=Z:=by rw[←HZ.out];simp only[yL,Fe,HE0.out];simp[h0]
     have e2:Cj σ i 1=M:=by rw[←HM.out];simp only[Cj,GU,HE0.out];simp[h0]
     rw[e1,e2];exact hL⟩
    clear hL k5 k6 k8 f5 f6 f8 c1 h0;go_wp2;go_roundw
    case rel=>exact⟨1,om,rfl,Tz,HO⟩
    case measure=>simp only[intOf];omega
   ·have hq0:q0≠0:=h0
    have hqi:q0≠i:=by have:=HR.out.n0;rw[HE0.out] at this;exact this
    have zR:q0≤n:=by have:=HR.out.l0;rw[HE0.out] at this;exact this
    have hs:=HR.out.s0;rw[HE0.out] at hs;obtain⟨hs0,hs1,hs2⟩:=hs hq0
    have d0:(((q0:Nat):Int)==0)=false:=by simp;omega
    have bq:(0:Int)≤q0∧(q0:Int)<N:=oC HN.out;have eq2:(σ.put i { σ i with sz:=Z,fi:=M }) q0=σ q0:=Sg.bE _ _ hqi;have q5:=hL.nr.c5 zR;have q6:=hL.nr.c6 zR;have q8:=hL.nr.c8 zR;rw[eq2] at q5 q6;obtain⟨s,hse⟩:=nE ((σ q0).sz);obtain⟨m,hme⟩:=nE ((σ q0).fi);rw[hse] at q5 hs0 hs1;rw[hme] at q6 hs2;have hw1:wrap64 (Z+s)=Z+s:=zk _ (oD HZb.out Ug.out);obtain⟨W1,hW1⟩:=nE ((wr.setCell ⟨g,i*9+5,none⟩ (.int .i64 (Z+s))).drew);obtain⟨W2,hW2⟩:=nE ((W1.setCell ⟨g,i*9+8,none⟩ (.int .i64 (wrap64 (iY i+iY q0)))).drew)
    have Zy:Off [g] wr W1:=by
     rw[←hW1];exact((Off.refl [g] wr).setCell sj _).drew
    have hL1:bT W1 b g n cap (σ.put i { σ i with sz:=Z+s,fi:=M }) li iY ed:=by
     refine hL.nodes Zy ?_;rw[←hW1];have h1:fT (wr.setCell ⟨g,i*9+5,none⟩ (.int .i64 (Z+s))).drew g n _ li iY:=hL.nr.s5 i (Z+s);rw[Sg.put_eq,Sg.jE] at h1;exact h1
    have hO2:Off [g] W1 W2:=by
     rw[←hW2];exact((Off.refl [g] W1).setCell sj _).drew
    have HL2:Hid (bT W2 b g n cap (σ.put i { σ i with sz:=Z+s,fi:=M }) li (lV iY i (wrap64 (iY i+iY q0))) ed):=jh (by
     refine hL1.nodes hO2 ?_;rw[←hW2]
     exact hL1.nr.s8 i (wrap64 (iY i+iY q0)))
    have eG:=jh ((HO.out.trans Zy (λj hj=>.inl hj)).trans hO2 (λj hj=>.inl hj));have HW1:=jh hW1;have HW2:=jh hW2;have mQ:=jh hL1;have HZ1:Hid (yL σ i 1=Z+s):=jh (by rw[←HZ.out,←hse];simp only[yL,Fe,HE0.out];simp[h0]);have Ki:Hid (Cj σ i 1=if Bf σ m M then m else M):=jh (by rw[←HM.out,←hme];simp only[Cj,GU,HE0.out];simp[h0]);have HX:=jh (And.intro hs2 (And.intro zR hqi));have Hme:=jh hme;clear h0 hs2 hqi hme hse hW2 hO2 hL hW1 Zy hL1;go_wp2
    go_still_tail 11,(by kernel_rfl)
    go_wp2_with fail;rw[hw1,HW1.out];clear HW1 q5 q6 q8 k5 k6 k8 f5 f6 f8 hw1 c1 HO hs0 hs1;have c1:=mQ.out.c1;rw[HN.out] at c1;have q8:=mQ.out.nr.c8 zR;have k8:=mQ.out.nr.c8 HR.out.le;have f8:=mQ.out.nr.fz (i*9+8);clear mQ
    go_still_tail 11,(by kernel_rfl)
    go_wp2_with fail;rw[HW2.out];clear HW2 q8 k8 f8 c1;have c1:=HL2.out.c1;rw[HN.out] at c1;have k6:=HL2.out.nr.c6 HR.out.le;rw[Sg.put_eq] at k6;have f6:=HL2.out.nr.fz (i*9+6);have q6:=HL2.out.nr.c6 zR;rw[Sg.bE _ _ HX.out.2.2,Hme.out] at q6
    go_quiet (exact Calls.quiet_of (uY (HL2.out.dn _) HX.out.1 HMb.out))
    have hbf:Bf (σ.put i { σ i with sz:=Z+s,fi:=M }) m M↔Bf σ m M:=Bf.congr (vS σ i { σ i with sz:=Z+s,fi:=M } rfl _) (vS σ i { σ i with sz:=Z+s,fi:=M } rfl _);rw[show decide (Bf (σ.put i { σ i with sz:=Z+s,fi:=M }) m M)=decide (Bf σ m M) from decide_eq_decide.2 hbf];have iH:=jh (HL2.out.dn nq);have dh:=jh (eG.out.drewN nq);obtain⟨W3,hW3⟩:=nG (W2.drewN nq);rw[←hW3] at iH dh⊢;clear HL2 eG hW3 c1 k6 f6 q6 hbf;have f6:=iH.out.nr.fz (i*9+6);have k6:=iH.out.nr.c6 HR.out.le;rw[Sg.put_eq] at k6;have q6:=iH.out.nr.c6 zR;rw[Sg.bE _ _ HX.out.2.2,Hme.out] at q6
    by_cases hb:Bf σ m M
    ·rw[dP hb]
     have Tz:Hid (bT (W3.setCell ⟨g,i*9+6,none⟩ (.int .i64 m)) b g n cap (σ.put i { σ i with sz:=yL σ i 1,fi:=Cj σ i 1 }) li (lV iY i (wrap64 (iY i+iY q0))) ed):=jh (by
      rw[HZ1.out,Ki.out,if_pos hb];have h1:=iH.out.nr.s6 i m;rw[Sg.put_eq,Sg.jE] at h1
      exact iH.out.nodes ((Off.refl [g] W3).setCell sj _) h1)
     clear hb;go_wp2;go_roundw
     case rel=>exact⟨1,om,rfl,jh ⟨_,Tz.out⟩,jh (dh.out.setCell sj _)⟩
     case measure=>simp only[intOf];omega
    ·rw[dF hb]
     have Tz:Hid (bT W3 b g n cap (σ.put i { σ i with sz:=yL σ i 1,fi:=Cj σ i 1 }) li (lV iY i (wrap64 (iY i+iY q0))) ed):=jh (by
      rw[HZ1.out,Ki.out,if_neg hb];exact iH.out)
     clear hb;go_wp2;go_roundw
     case rel=>exact⟨1,om,rfl,jh ⟨_,Tz.out⟩,dh⟩
     case measure=>simp only[intOf];omega
  ·obtain⟨Z,hZ⟩:=nE (yL σ i 1);obtain⟨M,hM⟩:=nE (Cj σ i 1);rw[hZ,hM] at hL;have HZ:=jh hZ;have HM:=jh hM
   have HZb:Hid (1≤Z∧Z≤1+1*(n:Int)):=jh (by
    rw[←hZ];exact Xi HR.out 1 om)
   have HMb:Hid (M≤n):=jh (by rw[←hM];exact Xj HR.out 1 om);have c1:=hL.c1;rw[HN.out] at c1;have k5:=hL.nr.c5 HR.out.le;have k6:=hL.nr.c6 HR.out.le;have k8:=hL.nr.c8 HR.out.le;rw[Sg.put_eq] at k5 k6;have f5:=hL.nr.fz (i*9+5);have f6:=hL.nr.fz (i*9+6);have f8:=hL.nr.fz (i*9+8);clear hZ hM
   have i0:∀w,(Instr.index 209 (.agg #[.int .i64 q0,.int .i64 q1]) (.int .i64 1)).run Tryz.prog w=.ok (.int .i64 q1) w:=λ_=>by kernel_rfl
   by_cases h0:q1=0
   ·have d0:(((q1:Nat):Int)==0)=true:=by simp[h0]
    have d0':(q1==0)=true:=by simp[h0]
    have Tz:Hid (∃iY,bT wr b g n cap (σ.put i { σ i with sz:=yL σ i 2,fi:=Cj σ i 2 }) li iY ed):=jh ⟨iY,by
     have e1:yL σ i 2=Z:=by rw[←HZ.out];simp only[yL,Fe,HE1.out];simp[h0]
     have e2:Cj σ i 2=M:=by rw[←HM.out];simp only[Cj,GU,HE1.out];simp[h0]
     rw[e1,e2];exact hL⟩
    clear hL k5 k6 k8 f5 f6 f8 c1 h0;go_wp2;go_roundw
    case rel=>exact⟨2,om,rfl,Tz,HO⟩
    case measure=>simp only[intOf];omega
   ·have hq0:q1≠0:=h0
    have hqi:q1≠i:=by have:=HR.out.n1;rw[HE1.out] at this;exact this
    have zR:q1≤n:=by have:=HR.out.l1;rw[HE1.out] at this;exact this
    have hs:=HR.out.s1;rw[HE1.out] at hs;obtain⟨hs0,hs1,hs2⟩:=hs hq0
    have d0:(((q1:Nat):Int)==0)=false:=by simp;omega
    have bq:(0:Int)≤q1∧(q1:Int)<N:=oC HN.out;have eq2:(σ.put i { σ i with sz:=Z,fi:=M }) q1=σ q1:=Sg.bE _ _ hqi;have q5:=hL.nr.c5 zR;have q6:=hL.nr.c6 zR;have q8:=hL.nr.c8 zR;rw[eq2] at q5 q6;obtain⟨s,hse⟩:=nE ((σ q1).sz);obtain⟨m,hme⟩:=nE ((σ q1).fi);rw[hse] at q5 hs0 hs1;rw[hme] at q6 hs2;have hw1:wrap64 (Z+s)=Z+s:=zk _ (oD HZb.out Ug.out);obtain⟨W1,hW1⟩:=nE ((wr.setCell ⟨g,i*9+5,none⟩ (.int .i64 (Z+s))).drew);obtain⟨W2,hW2⟩:=nE ((W1.setCell ⟨g,i*9+8,none⟩ (.int .i64 (wrap64 (iY i+iY q1)))).drew)
    have Zy:Off [g] wr W1:=by
     rw[←hW1];exact((Off.refl [g] wr).setCell sj _).drew
    have hL1:bT W1 b g n cap (σ.put i { σ i with sz:=Z+s,fi:=M }) li iY ed:=by
     refine hL.nodes Zy ?_;rw[←hW1];have h1:fT (wr.setCell ⟨g,i*9+5,none⟩ (.int .i64 (Z+s))).drew g n _ li iY:=hL.nr.s5 i (Z+s);rw[Sg.put_eq,Sg.jE] at h1;exact h1
    have hO2:Off [g] W1 W2:=by
     rw[←hW2];exact((Off.refl [g] W1).setCell sj _).drew
    have HL2:Hid (bT W2 b g n cap (σ.put i { σ i with sz:=Z+s,fi:=M }) li (lV iY i (wrap64 (iY i+iY q1))) ed):=jh (by
     refine hL1.nodes hO2 ?_;rw[←hW2]
     exact hL1.nr.s8 i (wrap64 (iY i+iY q1)))
    have eG:=jh ((HO.out.trans Zy (λj hj=>.inl hj)).trans hO2 (λj hj=>.inl hj));have HW1:=jh hW1;have HW2:=jh hW2;have mQ:=jh hL1;have HZ1:Hid (yL σ i 2=Z+s):=jh (by rw[←HZ.out,←hse];simp only[yL,Fe,HE1.out];simp[h0]);have Ki:Hid (Cj σ i 2=if Bf σ m M then m else M):=jh (by rw[←HM.out,←hme];simp only[Cj,GU,HE1.out];simp[h0]);have HX:=jh (And.intro hs2 (And.intro zR hqi));have Hme:=jh hme;clear h0 hs2 hqi hme hse hW2 hO2 hL hW1 Zy hL1;go_wp2
    go_still_tail 11,(by kernel_rfl)
    go_wp2_with fail;rw[hw1,HW1.out];clear HW1 q5 q6 q8 k5 k6 k8 f5 f6 f8 hw1 c1 HO hs0 hs1;have c1:=mQ.out.c1;rw[HN.out] at c1;have q8:=mQ.out.nr.c8 zR;have k8:=mQ.out.nr.c8 HR.out.le;have f8:=mQ.out.nr.fz (i*9+8);clear mQ
    go_still_tail 11,(by kernel_rfl)
    go_wp2_with fail;rw[HW2.out];clear HW2 q8 k8 f8 c1;have c1:=HL2.out.c1;rw[HN.out] at c1;have k6:=HL2.out.nr.c6 HR.out.le;rw[Sg.put_eq] at k6;have f6:=HL2.out.nr.fz (i*9+6);have q6:=HL2.out.nr.c6 zR;rw[Sg.bE _ _ HX.out.2.2,Hme.out] at q6
    go_quiet (exact Calls.quiet_of (uY (HL2.out.dn _) HX.out.1 HMb.out))
    have hbf:Bf (σ.put i { σ i with sz:=Z+s,fi:=M }) m M↔Bf σ m M:=Bf.congr (vS σ i { σ i with sz:=Z+s,fi:=M } rfl _) (vS σ i { σ i with sz:=Z+s,fi:=M } rfl _);rw[show decide (Bf (σ.put i { σ i with sz:=Z+s,fi:=M }) m M)=decide (Bf σ m M) from decide_eq_decide.2 hbf];have iH:=jh (HL2.out.dn nq);have dh:=jh (eG.out.drewN nq);obtain⟨W3,hW3⟩:=nG (W2.drewN nq);rw[←hW3] at iH dh⊢;clear HL2 eG hW3 c1 k6 f6 q6 hbf;have f6:=iH.out.nr.fz (i*9+6);have k6:=iH.out.nr.c6 HR.out.le;rw[Sg.put_eq] at k6;have q6:=iH.out.nr.c6 zR;rw[Sg.bE _ _ HX.out.2.2,Hme.out] at q6
    by_cases hb:Bf σ m M
    ·rw[dP hb]
     have Tz:Hid (bT (W3.setCell ⟨g,i*9+6,none⟩ (.int .i64 m)) b g n cap (σ.put i { σ i with sz:=yL σ i 2,fi:=Cj σ i 2 }) li (lV iY i (wrap64 (iY i+iY q1))) ed):=jh (by
      rw[HZ1.out,Ki.out,if_pos hb];have h1:=iH.out.nr.s6 i m;rw[Sg.put_eq,Sg.jE] at h1
      exact iH.out.nodes ((Off.refl [g] W3).setCell sj _) h1)
     clear hb;go_wp2;go_roundw
     case rel=>exact⟨2,om,rfl,jh ⟨_,Tz.out⟩,jh (dh.out.setCell sj _)⟩
     case measure=>simp only[intOf];omega
    ·rw[dF hb]
     have Tz:Hid (bT W3 b g n cap (σ.put i { σ i with sz:=yL σ i 2,fi:=Cj σ i 2 }) li (lV iY i (wrap64 (iY i+iY q1))) ed):=jh (by
      rw[HZ1.out,Ki.out,if_neg hb];exact iH.out)
     clear hb;go_wp2;go_roundw
     case rel=>exact⟨2,om,rfl,jh ⟨_,Tz.out⟩,dh⟩
     case measure=>simp only[intOf];omega
  ·have HF:Hid (bT wr b g n cap (dM σ i) li iY ed):=jh hL;clear hL;go_wp2;go_end0;exact⟨rfl,⟨_,HF.out⟩,HO.out⟩
end
section
variable {w:World} {b g n cap i k:Nat} {σ:Sg} {li tt:Nat→Int} {ed:Int}
def sdI (s:Bool):Int:=if s then 1 else 0
def jC (σ:Sg) (i:Nat):Int:=match side σ i with |some s=>sdI s |none=>0
theorem aM (h:bT w b g n cap σ li tt ed) (hi:i≤n) (hu:(σ i).up≤n):
  Calls Tryz.prog 177 #[.pointer (some ⟨b,0,none⟩),.int .i64 (i:Nat)] w λe w'=>e=.returned (.tuple #[.int .i64 (jC σ i),.bool (side σ i).isSome])∧∃q,w'=w.drewN q:=by
 obtain⟨N,hN⟩:=nE (n+1);have c1:=h.c1;rw[hN] at c1;have bi:(0:Int)≤i∧(i:Int)<N:=om;have k2:=h.nr.c2 hi;obtain⟨p,hp⟩:=nE ((σ i).up);rw[hp] at k2 hu
 by_cases p0:p=0
 ·have d0:(((p:Nat):Int)==0)=true:=by simp[p0]
  have d0':(p==0)=true:=by simp[p0]
  have HS:=jh (Pf (hp.trans p0));clear h hi hu hN hp p0;go_in;go_wp2;go_ret2;exact⟨by unfold jC;rw[HS.out];rfl,0,rfl⟩
 ·have d0:(((p:Nat):Int)==0)=false:=by simp;omega
  have d0':(p==0)=false:=by simp[p0]
  have bp:(0:Int)≤p∧(p:Int)<N:=om;have kp0:=h.nr.c0 hu;have kp1:=h.nr.c1 hu;obtain⟨q0,e0⟩:=nE ((σ p).k0);obtain⟨q1,e1⟩:=nE ((σ p).k1);rw[e0] at kp0;rw[e1] at kp1
  have i0:∀w,(Instr.index 209 (.agg #[.int .i64 q0,.int .i64 q1]) (.int .i64 0)).run Tryz.prog w=.ok (.int .i64 q0) w:=λ_=>by kernel_rfl
  have i1:∀w,(Instr.index 209 (.agg #[.int .i64 q0,.int .i64 q1]) (.int .i64 1)).run Tryz.prog w=.ok (.int .i64 q1) w:=λ_=>by kernel_rfl
  by_cases h0:q0=i
  ·have d1:(((q0:Nat):Int)==(i:Int))=true:=by simp[h0]
   have d1':(q0==i)=true:=by simp[h0]
   have HS:=jh (Pe (σ:=σ) (i:=i) (by rw[hp];exact p0) (by rw[hp,e0,h0]));clear h hi hu hN hp p0 e0 e1 h0;go_in;go_wp2_with fail;refine wp_loop_rounds 2 ?_;rw[rounds_succ];go_wp2;go_ret2;exact⟨by unfold jC;rw[HS.out];rfl,0,rfl⟩
  ·have d1:(((q0:Nat):Int)==(i:Int))=false:=by simp;omega
   have d1':(q0==i)=false:=by simp[h0]
   by_cases h1:q1=i
   ·have d2:(((q1:Nat):Int)==(i:Int))=true:=by simp[h1]
    have d2':(q1==i)=true:=by simp[h1]
    have HS:=jh (Pb (σ:=σ) (i:=i) (by rw[hp];exact p0) (by rw[hp,e0];exact h0) (by rw[hp,e1,h1]));clear h hi hu hN hp p0 e0 e1 h0 h1;go_in;go_wp2_with fail;refine wp_loop_rounds 2 ?_;rw[rounds_succ];go_wp2;rw[rounds_succ];go_wp2;go_ret2;exact⟨by unfold jC;rw[HS.out];rfl,0,rfl⟩
   ·have d2:(((q1:Nat):Int)==(i:Int))=false:=by simp;omega
    have d2':(q1==i)=false:=by simp[h1]
    have HS:=jh (Pd (σ:=σ) (i:=i) (by rw[hp,e0];exact h0) (by rw[hp,e1];exact h1));clear h hi hu hN hp p0 e0 e1 h0 h1;go_in;go_wp2_with fail;refine wp_loop_rounds 3 ?_;rw[rounds_succ];go_wp2;rw[rounds_succ];go_wp2;rw[rounds_succ];go_wp2;go_ret2;exact⟨by unfold jC;rw[HS.out];rfl,0,rfl⟩
theorem d9 (s:Bool) (h:bT w b g n cap σ li tt ed) (hi:i≤n) (hk:k≤n):
  Calls Tryz.prog 208 #[.pointer (some ⟨b,0,none⟩),.int .i64 (i:Nat),.int .i64 (sdI s),.int .i64 (k:Nat)] w λe w'=>e=.returned (.tuple #[])∧bT w' b g n cap (aO σ i s k) li tt ed∧Off [g] w w':=by
 obtain⟨N,hN⟩:=nE (n+1);have c1:=h.c1;rw[hN] at c1;have bi:(0:Int)≤i∧(i:Int)<N:=om;have bk:(0:Int)≤k∧(k:Int)<N:=om;cases s
 ·have hs:sdI false=0:=rfl;rw[hs];have k0:=h.nr.c0 hi;have f0:=h.nr.fz (i*9);have kk:=h.nr.c2 hk;have fk:=h.nr.fz (k*9+2);have hE:=h.nr.s0 i k;have hO:Off [g] w (w.setCell ⟨g,i*9,none⟩ (.int .i64 k)):=(Off.refl [g] w).setCell sj _
  by_cases k0:k=0
  ·have d0:(((k:Nat):Int) !=0)=false:=by simp[k0]
   have d0':(k !=0)=false:=by simp[k0]
   have HL:Hid (bT (w.setCell ⟨g,i*9,none⟩ (.int .i64 k)) b g n cap (aO σ i false k) li tt ed):=jh (by
    unfold aO;rw[if_pos k0];exact h.nodes hO hE)
   have HO:=jh hO;clear h hi hk hN hs hE hO k0;go_in;go_wp2;go_end0;exact⟨rfl,HL.out,HO.out⟩
  ·have d0:(((k:Nat):Int) !=0)=true:=by simp;omega
   have d0':(k !=0)=true:=by simp[k0]
   have hE2:=hE.s2 k i;have c1':=(h.nodes hO hE).c1;rw[hN] at c1';have kk':=hE.c2 hk;have fk':=hE.fz (k*9+2);have hO2:=hO.setCell (p:=⟨g,k*9+2,none⟩) sj (.int .i64 i)
   have HL:Hid (bT ((w.setCell ⟨g,i*9,none⟩ (.int .i64 k)).setCell ⟨g,k*9+2,none⟩ (.int .i64 i)) b g n cap (aO σ i false k) li tt ed):=jh (by
    unfold aO;rw[if_neg k0];exact h.nodes hO2 hE2)
   have HO:=jh hO2;clear h hi hk hN hs hE hO hE2 hO2 k0;go_in;go_wp2;go_end0;exact⟨rfl,HL.out,HO.out⟩
 ·have hs:sdI true=1:=rfl;rw[hs];have k0:=h.nr.c1 hi;have f0:=h.nr.fz (i*9+1);have kk:=h.nr.c2 hk;have fk:=h.nr.fz (k*9+2);have hE:=h.nr.s1 i k;have hO:Off [g] w (w.setCell ⟨g,i*9+1,none⟩ (.int .i64 k)):=(Off.refl [g] w).setCell sj _
  by_cases k0:k=0
  ·have d0:(((k:Nat):Int) !=0)=false:=by simp[k0]
   have d0':(k !=0)=false:=by simp[k0]
   have HL:Hid (bT (w.setCell ⟨g,i*9+1,none⟩ (.int .i64 k)) b g n cap (aO σ i true k) li tt ed):=jh (by
    unfold aO;rw[if_pos k0];exact h.nodes hO hE)
   have HO:=jh hO;clear h hi hk hN hs hE hO k0;go_in;go_wp2;go_end0;exact⟨rfl,HL.out,HO.out⟩
  ·have d0:(((k:Nat):Int) !=0)=true:=by simp;omega
   have d0':(k !=0)=true:=by simp[k0]
   have hE2:=hE.s2 k i;have c1':=(h.nodes hO hE).c1;rw[hN] at c1';have kk':=hE.c2 hk;have fk':=hE.fz (k*9+2);have hO2:=hO.setCell (p:=⟨g,k*9+2,none⟩) sj (.int .i64 i)
   have HL:Hid (bT ((w.setCell ⟨g,i*9+1,none⟩ (.int .i64 k)).setCell ⟨g,k*9+2,none⟩ (.int .i64 i)) b g n cap (aO σ i true k) li tt ed):=jh (by
    unfold aO;rw[if_neg k0];exact h.nodes hO2 hE2)
   have HO:=jh hO2;clear h hi hk hN hs hE hO hE2 hO2 k0;go_in;go_wp2;go_end0;exact⟨rfl,HL.out,HO.out⟩
def wH (σ:Sg) (k:Nat):Sg:=if k=0 then σ else σ.put k { σ k with fl:=!(σ k).fl }
def iZ (σ:Sg) (a b:Nat):Nat→Sg
 |0=>σ
 |1=>wH σ a
 |_=>wH (wH σ a) b
theorem Da {n i q0 q1:Nat} {σ:Sg} (P:Ca n σ i) (e0:(σ i).k0=q0) (e1:(σ i).k1=q1) (hf:(σ i).fl=true):
  wH (wH (σ.put i { k0:=q1,k1:=q0,up:=(σ i).up,fl:=false,key:=(σ i).key,sz:=(σ i).sz,fi:=(σ i).fi }) q1) q0=dN σ i:=by
 have n0:=P.n0;have n1:=P.n1;have ne:=P.ne;rw[e0] at n0 ne;rw[e1] at n1 ne
 funext j
 unfold dN;rw[if_pos hf,e0,e1];simp only
 by_cases hj:j=i
 ·subst hj;have m0:j≠q0:=λe=>n0 e.symm;have m1:j≠q1:=λe=>n1 e.symm;rw[if_pos rfl];unfold wH
  (repeat' split)<;>simp[Sg.put,m0,m1]
 ·rw[if_neg hj];unfold wH
  by_cases h1:q1=0
  ·by_cases h2:q0=0
   ·simp[h1,h2,Sg.put,hj]
   ·by_cases h3:j=q0
    ·subst h3;simp[h1,h2,Sg.put,hj]
    ·simp[h1,h2,h3,Sg.put,hj]
  ·by_cases h2:q0=0
   ·by_cases h3:j=q1
    ·subst h3;simp[h1,h2,Sg.put,hj]
    ·simp[h1,h2,h3,Sg.put,hj]
   ·have h4:q0≠q1:=λe=>h2 (ne e)
    by_cases h3:j=q0
    ·subst h3;simp[h1,h2,Sg.put,hj,h4]
    ·by_cases h5:j=q1
     ·subst h5;simp[h1,h2,h3,Sg.put,hj]
     ·simp[h1,h2,h3,h5,Sg.put,hj]
theorem LH (h:bT w b g n cap σ li tt ed) (P:Ca n σ i):
  Calls Tryz.prog 179 #[.pointer (some ⟨b,0,none⟩),.int .i64 (i:Nat)] w λe w'=>e=.returned (.tuple #[])∧bT w' b g n cap (dN σ i) li tt ed∧Off [g] w w':=by
 obtain⟨N,hN⟩:=nE (n+1);have c1:=h.c1;rw[hN] at c1;have hi:=P.le;have bi:(0:Int)≤i∧(i:Int)<N:=om;have k3:=h.nr.c3 hi;have f3:=h.nr.fz (i*9+3)
 by_cases hf:(σ i).fl=true
 ·rw[hf] at k3;obtain⟨q0,e0⟩:=nE ((σ i).k0);obtain⟨q1,e1⟩:=nE ((σ i).k1);have k0:=h.nr.c0 hi;have k1:=h.nr.c1 hi;rw[e0] at k0;rw[e1] at k1;have f0:=h.nr.fz (i*9);have f1:=h.nr.fz (i*9+1);go_in;go_wp2_with fail;have HS:(λ_:World=>True) w:=trivial;refine aj (λ_=>True) (by kernel_rfl) ?_;refine tC 0 ?_;refine tC 1 ?_;refine tC 2 ?_;refine tC 3 ?_;refine tC 4 ?_;refine tC 5 ?_;refine tC 7 ?_;refine tC 8 ?_;refine tC 9 ?_;refine tC 10 ?_;refine tC 12 ?_;refine tC 13 ?_;refine tC 16 ?_;refine tC 17 ?_
  try simp only[sD]
  refine Py [6,11] ?_;have HL:=jh h;have HP:=jh P;have HE:=jh (And.intro e0 (And.intro e1 hf))
  have W0:(w.setCell ⟨g,i*9+3,none⟩ (.bool false)).drew.cell? ⟨g,i*9,none⟩=some (.int .i64 q0):=by
   have:=(h.nr.s3 i false).c0 hi;rw[Sg.put_eq] at this;rw[←e0];exact this
  have W1:(w.setCell ⟨g,i*9+3,none⟩ (.bool false)).drew.cell? ⟨g,i*9+1,none⟩=some (.int .i64 q1):=by
   have:=(h.nr.s3 i false).c1 hi;rw[Sg.put_eq] at this;rw[←e1];exact this
  have F0:=(h.nr.s3 i false).fz (i*9);have F1:=(h.nr.s3 i false).fz (i*9+1);have HNA:Hid (fT (w.setCell ⟨g,i*9+3,none⟩ (.bool false)).drew g n (σ.put i { σ i with fl:=false }) li tt):=jh (h.nr.s3 i false);have HO:Hid (Off [g] w (w.setCell ⟨g,i*9+3,none⟩ (.bool false)).drew):=jh ((Off.refl [g] w).setCell sj _).drew;obtain⟨W,hW⟩:=nE ((w.setCell ⟨g,i*9+3,none⟩ (.bool false)).drew)
  have F0:W.frozen? ⟨g,i*9,none⟩=false:=by rw[←hW];exact F0
  have F1:W.frozen? ⟨g,i*9+1,none⟩=false:=by rw[←hW];exact F1
  rw[hW] at W0 W1 HNA HO⊢;have HN:=jh hN;clear h P e0 e1 hf hN hi hW k0 k1 f0 f1 k3 f3 HS;have HS:(λ_:World=>True) W:=trivial;have Nw:Hid (∀K:Act→World→Prop,True):=jh λ_=>trivial;clear Nw;refine AllReadyH.cons rfl (λK hK=>?_) (AllReadyH.cons rfl (λK hK=>?_) AllReadyH.nil)
  ·go_simp;refine hK.out _ _ trivial (λ_=>?_);clear hK;refine rC 11 λK hK=>?_;go_simp;refine hK.out _ _ trivial (λ_=>?_);clear hK;refine tC 14 ?_
   try simp only[sD]
   refine rC 15 λK hK=>?_;go_simp;refine hK.out _ _ trivial (λ_=>?_);clear hK;have HS:(λ_:World=>True) (W.setCell ⟨g,i*9,none⟩ (.int .i64 q1)):=trivial;refine tC 18 ?_
   try simp only[sD]
   refine rC 19 λK hK=>?_;go_simp;refine hK.out _ _ trivial (λ_=>?_);clear hK;refine dD ⟨rfl,?_⟩;have Iu:=(HNA.out.s0 i q1).s1 i q0;rw[Sg.put_eq,Sg.jE,Sg.put_eq,Sg.jE] at Iu;have eG:=jh ((HO.out.setCell (p:=⟨g,i*9,none⟩) sj (.int .i64 q1)).setCell (p:=⟨g,i*9+1,none⟩) sj (.int .i64 q0));have HL2:=jh (HL.out.nodes eG.out Iu);obtain⟨W5,kZ⟩:=nE ((W.setCell ⟨g,i*9,none⟩ (.int .i64 q1)).setCell ⟨g,i*9+1,none⟩ (.int .i64 q0));rw[kZ] at HL2 eG⊢;clear kZ Iu HNA HO HL HS F0 F1 W0 W1 c1;have v0:=HL2.out.nr.c0 HP.out.le;have v1:=HL2.out.nr.c1 HP.out.le;rw[Sg.put_eq] at v0 v1
   have i0:∀w,(Instr.index 209 (.agg #[.int .i64 q1,.int .i64 q0]) (.int .i64 0)).run Tryz.prog w=.ok (.int .i64 q1) w:=λ_=>by kernel_rfl
   have i1:∀w,(Instr.index 209 (.agg #[.int .i64 q1,.int .i64 q0]) (.int .i64 1)).run Tryz.prog w=.ok (.int .i64 q0) w:=λ_=>by kernel_rfl
   have hT:Hid (wH (wH (σ.put i { k0:=q1,k1:=q0,up:=(σ i).up,fl:=false,key:=(σ i).key,sz:=(σ i).sz,fi:=(σ i).fi }) q1) q0=dN σ i):=jh (Da HP.out HE.out.1 HE.out.2.1 HE.out.2.2);have hq:Hid (q0≤n∧q1≤n):=jh ⟨by rw[←HE.out.1];exact HP.out.l0,by rw[←HE.out.2.1];exact HP.out.l1⟩;obtain⟨σ1,yP⟩:∃x:Sg,σ.put i { k0:=q1,k1:=q0,up:=(σ i).up,fl:=false,key:=(σ i).key,sz:=(σ i).sz,fi:=(σ i).fi }=x:=⟨_,rfl⟩;rw[yP] at HL2 hT;clear yP HS;go_wp2_with fail;clear v0 v1
   go_loopw [43] (λiv wr=>∃r:Nat,r≤2∧iv=.int .i64 r∧Hid (bT wr b g n cap (iZ σ1 q1 q0 r) li tt ed)∧Hid (Off [g] w wr)) (λiv _=>2-(intOf iv).toNat)
   case atStart=>exact⟨0,om,rfl,HL2,eG⟩
   case round=>
    clear HL2 eG;obtain⟨r,hr,rfl,HL,HO⟩:=hrel;have hr3:r=0∨r=1∨r=2:=om
    rcases hr3 with rfl |rfl |rfl
    ·by_cases h0:q1=0
     ·have d0:(((q1:Nat):Int) !=0)=false:=by simp[h0]
      have d0':(q1 !=0)=false:=by simp[h0]
      have HF:Hid (bT wr b g n cap (iZ σ1 q1 q0 1) li tt ed):=jh (by
       have e:iZ σ1 q1 q0 1=iZ σ1 q1 q0 0:=by simp[iZ,wH,h0]
       rw[e];exact HL.out)
      clear h0 HL;go_wp2;go_roundw
      case rel=>exact⟨1,om,rfl,HF,HO⟩
      case measure=>simp only[intOf];omega
     ·have d0:(((q1:Nat):Int) !=0)=true:=by simp;omega
      have d0':(q1 !=0)=true:=by simp[h0]
      have bq:(0:Int)≤q1∧(q1:Int)<N:=oD HN.out hq.out.2;have c1:=HL.out.c1;rw[HN.out] at c1;have v3:=HL.out.nr.c3 hq.out.2;have f3:=HL.out.nr.fz (q1*9+3)
      have HF:Hid (bT (wr.setCell ⟨g,q1*9+3,none⟩ (.bool (!(iZ σ1 q1 q0 0 q1).fl))) b g n cap (iZ σ1 q1 q0 1) li tt ed):=jh (by
       have e:iZ σ1 q1 q0 1=(iZ σ1 q1 q0 0).put q1 { (iZ σ1 q1 q0 0) q1 with fl:=!((iZ σ1 q1 q0 0) q1).fl }:=by
        show wH (iZ σ1 q1 q0 0) q1=_;unfold wH;rw[if_neg h0]
       rw[e]
       exact HL.out.nodes ((Off.refl [g] wr).setCell sj _) (HL.out.nr.s3 q1 _))
      have dh:=jh (HO.out.setCell (p:=⟨g,q1*9+3,none⟩) sj (.bool (!(iZ σ1 q1 q0 0 q1).fl)));generalize (iZ σ1 q1 q0 0 q1).fl=fb at v3 HF dh;clear h0 HL HO;go_wp2
      go_still_tail 16,(by kernel_rfl)
      go_wp2;go_roundw
      case rel=>exact⟨1,om,by rfl,jh HF.out.dr,jh dh.out.drew⟩
      case measure=>simp only[intOf];omega
    ·by_cases h0:q0=0
     ·have d0:(((q0:Nat):Int) !=0)=false:=by simp[h0]
      have d0':(q0 !=0)=false:=by simp[h0]
      have HF:Hid (bT wr b g n cap (iZ σ1 q1 q0 2) li tt ed):=jh (by
       have e:iZ σ1 q1 q0 2=iZ σ1 q1 q0 1:=by simp[iZ,wH,h0]
       rw[e];exact HL.out)
      clear h0 HL;go_wp2;go_roundw
      case rel=>exact⟨2,om,rfl,HF,HO⟩
      case measure=>simp only[intOf];omega
     ·have d0:(((q0:Nat):Int) !=0)=true:=by simp;omega
      have d0':(q0 !=0)=true:=by simp[h0]
      have bq:(0:Int)≤q0∧(q0:Int)<N:=oD HN.out hq.out.1;have c1:=HL.out.c1;rw[HN.out] at c1;have v3:=HL.out.nr.c3 hq.out.1;have f3:=HL.out.nr.fz (q0*9+3)
      have HF:Hid (bT (wr.setCell ⟨g,q0*9+3,none⟩ (.bool (!(iZ σ1 q1 q0 1 q0).fl))) b g n cap (iZ σ1 q1 q0 2) li tt ed):=jh (by
       have e:iZ σ1 q1 q0 2=(iZ σ1 q1 q0 1).put q0 { (iZ σ1 q1 q0 1) q0 with fl:=!((iZ σ1 q1 q0 1) q0).fl }:=by
        show wH (iZ σ1 q1 q0 1) q0=_;unfold wH;rw[if_neg h0]
       rw[e]
       exact HL.out.nodes ((Off.refl [g] wr).setCell sj _) (HL.out.nr.s3 q0 _))
      have dh:=jh (HO.out.setCell (p:=⟨g,q0*9+3,none⟩) sj (.bool (!(iZ σ1 q1 q0 1 q0).fl)));generalize (iZ σ1 q1 q0 1 q0).fl=fb at v3 HF dh;clear h0 HL HO;go_wp2
      go_still_tail 16,(by kernel_rfl)
      go_wp2;go_roundw
      case rel=>exact⟨2,om,by rfl,jh HF.out.dr,jh dh.out.drew⟩
      case measure=>simp only[intOf];omega
    ·have HF:Hid (bT wr b g n cap (dN σ i) li tt ed):=jh (by rw[←hT.out];exact HL.out);clear HL;go_wp2;go_end0;exact⟨rfl,HF.out,HO.out⟩
  ·go_simp;refine hK.out _ _ trivial (λ_=>?_);clear hK;refine rC 6 λK hK=>?_;go_simp;refine hK.out _ _ trivial (λ_=>?_);clear hK;refine tC 14 ?_
   try simp only[sD]
   refine rC 15 λK hK=>?_;go_simp;refine hK.out _ _ trivial (λ_=>?_);clear hK;have HS:(λ_:World=>True) (W.setCell ⟨g,i*9,none⟩ (.int .i64 q1)):=trivial;refine tC 18 ?_
   try simp only[sD]
   refine rC 19 λK hK=>?_;go_simp;refine hK.out _ _ trivial (λ_=>?_);clear hK;refine dD ⟨rfl,?_⟩;have Iu:=(HNA.out.s0 i q1).s1 i q0;rw[Sg.put_eq,Sg.jE,Sg.put_eq,Sg.jE] at Iu;have eG:=jh ((HO.out.setCell (p:=⟨g,i*9,none⟩) sj (.int .i64 q1)).setCell (p:=⟨g,i*9+1,none⟩) sj (.int .i64 q0));have HL2:=jh (HL.out.nodes eG.out Iu);obtain⟨W5,kZ⟩:=nE ((W.setCell ⟨g,i*9,none⟩ (.int .i64 q1)).setCell ⟨g,i*9+1,none⟩ (.int .i64 q0));rw[kZ] at HL2 eG⊢;clear kZ Iu HNA HO HL HS F0 F1 W0 W1 c1;have v0:=HL2.out.nr.c0 HP.out.le;have v1:=HL2.out.nr.c1 HP.out.le;rw[Sg.put_eq] at v0 v1
   have i0:∀w,(Instr.index 209 (.agg #[.int .i64 q1,.int .i64 q0]) (.int .i64 0)).run Tryz.prog w=.ok (.int .i64 q1) w:=λ_=>by kernel_rfl
   have i1:∀w,(Instr.index 209 (.agg #[.int .i64 q1,.int .i64 q0]) (.int .i64 1)).run Tryz.prog w=.ok (.int .i64 q0) w:=λ_=>by kernel_rfl
   have hT:Hid (wH (wH (σ.put i { k0:=q1,k1:=q0,up:=(σ i).up,fl:=false,key:=(σ i).key,sz:=(σ i).sz,fi:=(σ i).fi }) q1) q0=dN σ i):=jh (Da HP.out HE.out.1 HE.out.2.1 HE.out.2.2);have hq:Hid (q0≤n∧q1≤n):=jh ⟨by rw[←HE.out.1];exact HP.out.l0,by rw[←HE.out.2.1];exact HP.out.l1⟩;obtain⟨σ1,yP⟩:∃x:Sg,σ.put i { k0:=q1,k1:=q0,up:=(σ i).up,fl:=false,key:=(σ i).key,sz:=(σ i).sz,fi:=(σ i).fi }=x:=⟨_,rfl⟩;rw[yP] at HL2 hT;clear yP HS;go_wp2_with fail;clear v0 v1
   go_loopw [43] (λiv wr=>∃r:Nat,r≤2∧iv=.int .i64 r∧Hid (bT wr b g n cap (iZ σ1 q1 q0 r) li tt ed)∧Hid (Off [g] w wr)) (λiv _=>2-(intOf iv).toNat)
   case atStart=>exact⟨0,om,rfl,HL2,eG⟩
   case round=>
    clear HL2 eG;obtain⟨r,hr,rfl,HL,HO⟩:=hrel;have hr3:r=0∨r=1∨r=2:=om
    rcases hr3 with rfl |rfl |rfl
    ·by_cases h0:q1=0
     ·have d0:(((q1:Nat):Int) !=0)=false:=by simp[h0]
      have d0':(q1 !=0)=false:=by simp[h0]
      have HF:Hid (bT wr b g n cap (iZ σ1 q1 q0 1) li tt ed):=jh (by
       have e:iZ σ1 q1 q0 1=iZ σ1 q1 q0 0:=by simp[iZ,wH,h0]
       rw[e];exact HL.out)
      clear h0 HL;go_wp2;go_roundw
      case rel=>exact⟨1,om,rfl,HF,HO⟩
      case measure=>simp only[intOf];omega
     ·have d0:(((q1:Nat):Int) !=0)=true:=by simp;omega
      have d0':(q1 !=0)=true:=by simp[h0]
      have bq:(0:Int)≤q1∧(q1:Int)<N:=oD HN.out hq.out.2;have c1:=HL.out.c1;rw[HN.out] at c1;have v3:=HL.out.nr.c3 hq.out.2;have f3:=HL.out.nr.fz (q1*9+3)
      have HF:Hid (bT (wr.setCell ⟨g,q1*9+3,none⟩ (.bool (!(iZ σ1 q1 q0 0 q1).fl))) b g n cap (iZ σ1 q1 q0 1) li tt ed):=jh (by
       have e:iZ σ1 q1 q0 1=(iZ σ1 q1 q0 0).put q1 { (iZ σ1 q1 q0 0) q1 with fl:=!((iZ σ1 q1 q0 0) q1).fl }:=by
        show wH (iZ σ1 q1 q0 0) q1=_;unfold wH;rw[if_neg h0]
       rw[e]
       exact HL.out.nodes ((Off.refl [g] wr).setCell sj _) (HL.out.nr.s3 q1 _))
      have dh:=jh (HO.out.setCell (p:=⟨g,q1*9+3,none⟩) sj (.bool (!(iZ σ1 q1 q0 0 q1).fl)));generalize (iZ σ1 q1 q0 0 q1).fl=fb at v3 HF dh;clear h0 HL HO;go_wp2
      go_still_tail 16,(by kernel_rfl)
      go_wp2;go_roundw
      case rel=>exact⟨1,om,by rfl,jh HF.out.dr,jh dh.out.drew⟩
      case measure=>simp only[intOf];omega
    ·by_cases h0:q0=0
     ·have d0:(((q0:Nat):Int) !=0)=false:=by simp[h0]
      have d0':(q0 !=0)=false:=by simp[h0]
      have HF:Hid (bT wr b g n cap (iZ σ1 q1 q0 2) li tt ed):=jh (by
       have e:iZ σ1 q1 q0 2=iZ σ1 q1 q0 1:=by simp[iZ,wH,h0]
       rw[e];exact HL.out)
      clear h0 HL;go_wp2;go_roundw
      case rel=>exact⟨2,om,rfl,HF,HO⟩
      case measure=>simp only[intOf];omega
     ·have d0:(((q0:Nat):Int) !=0)=true:=by simp;omega
      have d0':(q0 !=0)=true:=by simp[h0]
      have bq:(0:Int)≤q0∧(q0:Int)<N:=oD HN.out hq.out.1;have c1:=HL.out.c1;rw[HN.out] at c1;have v3:=HL.out.nr.c3 hq.out.1;have f3:=HL.out.nr.fz (q0*9+3)
      have HF:Hid (bT (wr.setCell ⟨g,q0*9+3,none⟩ (.bool (!(iZ σ1 q1 q0 1 q0).fl))) b g n cap (iZ σ1 q1 q0 2) li tt ed):=jh (by
       have e:iZ σ1 q1 q0 2=(iZ σ1 q1 q0 1).put q0 { (iZ σ1 q1 q0 1) q0 with fl:=!((iZ σ1 q1 q0 1) q0).fl }:=by
        show wH (iZ σ1 q1 q0 1) q0=_;unfold wH;rw[if_neg h0]
       rw[e]
       exact HL.out.nodes ((Off.refl [g] wr).setCell sj _) (HL.out.nr.s3 q0 _))
      have dh:=jh (HO.out.setCell (p:=⟨g,q0*9+3,none⟩) sj (.bool (!(iZ σ1 q1 q0 1 q0).fl)));generalize (iZ σ1 q1 q0 1 q0).fl=fb at v3 HF dh;clear h0 HL HO;go_wp2
      go_still_tail 16,(by kernel_rfl)
      go_wp2;go_roundw
      case rel=>exact⟨2,om,by rfl,jh HF.out.dr,jh dh.out.drew⟩
      case measure=>simp only[intOf];omega
    ·have HF:Hid (bT wr b g n cap (dN σ i) li tt ed):=jh (by rw[←hT.out];exact HL.out);clear HL;go_wp2;go_end0;exact⟨rfl,HF.out,HO.out⟩
 ·rw[Bool.not_eq_true] at hf;rw[hf] at k3;have HL:=jh h;have HP:Hid (dN σ i=σ):=jh (by unfold dN;rw[if_neg (by rw[hf];exact Bool.false_ne_true)]);clear h P hN hi hf;go_in;go_wp2_with fail
  (try simp only[Exit.inBlock,Exit.then]);refine bodyPost_ret (results_none rfl _ _ _) rfl ?_
  exact⟨rfl,by rw[HP.out];exact HL.out,Off.refl _ _⟩
end
section
variable {w:World} {b g n cap i:Nat} {σ:Sg} {li tt:Nat→Int} {ed:Int}
theorem bX (s:Bool) (h:bT w b g n cap σ li tt ed) (R:ni n σ i s) (hn:n≤1000000):
  Calls Tryz.prog 180 #[.pointer (some ⟨b,0,none⟩),.int .i64 (i:Nat)] w λe w'=>e=.returned (.tuple #[])∧(∃iY,bT w' b g n cap (fB σ i s) li iY ed)∧Off [g] w w':=by
 obtain⟨N,hN⟩:=nE (n+1);have c1:=h.c1;rw[hN] at c1;have bi:(0:Int)≤i∧(i:Int)<N:=oC R.li;obtain⟨p,hp⟩:=nE ((σ i).up)
 have hpn:p≤n:=by rw[←hp];exact R.lp
 obtain⟨gg,hgg⟩:=nE ((σ p).up)
 have vL:gg≤n:=by rw[←hgg,←hp];exact R.lg
 have bp:(0:Int)≤p∧(p:Int)<N:=om;have k2:=h.nr.c2 R.li;have kp2:=h.nr.c2 hpn;rw[hp] at k2;rw[hgg] at kp2;cases s
 ·by_cases hx:(side σ (σ i).up).isSome=true
  ·obtain⟨ab,hab⟩:=Option.isSome_iff_exists.1 hx
   have GV:jQ σ i=aO σ gg ab i:=by unfold jQ;rw[hab,hp,hgg]
   have RN:jP σ i false=aO (aO σ gg ab i) p false (((aO σ gg ab i) i).kd (!false)):=by unfold jP;rw[GV,hp]
   have Mw:fI σ i false=aO (jP σ i false) i (!false) p:=by unfold fI;rw[hp]
   have RJ:fB σ i false=dM (dM (fI σ i false) p) i:=by unfold fB;rw[hp]
   have lk:=R.lk;rw[GV] at lk;have Tp:=jh R.rp;have Tq:=jh R.ri;rw[hp] at Tp Tq;have vE:=jh (aM h R.li R.lp);rw[show jC σ i=0 by unfold jC;rw[R.sd];rfl,R.sd] at vE;have HS2:=jh (λq=>aM (i:=p) (h.dn q) hpn (by rw[hgg];exact vL));rw[hp] at hab;rw[hab] at HS2;rw[show jC σ p=sdI ab by unfold jC;rw[hab]] at HS2;have HL:=jh h;have IB:=jh RN;have Iz:=jh Mw;have Iy:=jh RJ;have HN:=jh hN;have HI:=jh (And.intro R.li (And.intro hpn (And.intro vL lk)));have HP:=jh hp;have HG:=jh hgg;have HM:=jh hn;clear h R GV RN Mw RJ hab hx lk hN hp hgg hpn vL hn;go_in;go_wp2_with fail;apply mO vE;clear vE;rintro e w1 ⟨rfl,qa,rfl⟩;go_wp2_with fail;refine(HS2.out qa).mono ?_;clear HS2;rintro e w2 ⟨rfl,qb,rfl⟩;have mQ:=jh ((HL.out.dn qa).dn qb);have fK:Hid (Off [g] w ((w.drewN qa).drewN qb)):=jh (((Off.refl [g] w).drewN qa).drewN qb);obtain⟨w2,hw2⟩:=nG ((w.drewN qa).drewN qb);rw[←hw2] at mQ fK⊢;clear hw2 HL c1 k2 kp2;go_wp2_with fail;refine(d9 ab mQ.out HI.out.2.2.1 HI.out.1).mono ?_;rintro e w3 ⟨rfl,l3,o3⟩;have iH:=jh l3;have dh:=jh (fK.out.trans o3 (λj hj=>.inl hj));clear l3 o3 mQ fK;have c1:=iH.out.c1;rw[HN.out] at c1;have kk:=iH.out.nr.c1 HI.out.1;obtain⟨kv,hkv⟩:=nE (((aO σ gg ab i) i).k1);rw[hkv] at kk
   have xJ:kv≤n:=by rw[←hkv];exact HI.out.2.2.2
   have HKV:=jh hkv;have l4:=λW (H:bT W b g n cap (aO σ gg ab i) li tt ed)=>d9 false H HI.out.2.1 xJ;have HH:=jh l4;clear l4 hkv xJ;go_wp2_with fail;refine(HH.out _ iH.out).mono ?_;clear HH;rintro e w4 ⟨rfl,l4,o4⟩
   have e4:aO (aO σ gg ab i) p false kv=jP σ i false:=by rw[IB.out,←HKV.out];rfl
   rw[e4] at l4;have oK:=jh l4;have jw:=jh (dh.out.trans o4 (λj hj=>.inl hj));clear l4 o4 iH dh kk e4;go_wp2_with fail;refine(d9 (true) oK.out HI.out.1 HI.out.2.1).mono ?_;rintro e w5 ⟨rfl,l5,o5⟩
   have e5:aO (jP σ i false) i true p=fI σ i false:=by rw[Iz.out];rfl
   rw[e5] at l5;have vG:=jh l5;have nk:=jh (jw.out.trans o5 (λj hj=>.inl hj));clear l5 o5 oK jw e5;go_wp2_with fail;refine(aU vG.out Tp.out HM.out).mono ?_;rintro e w6 ⟨rfl,⟨t6,l6⟩,o6⟩;have qp:=jh l6;have nI:=jh (nk.out.trans o6 (λj hj=>.inl hj));clear l6 o6 vG nk;go_wp2_with fail;refine(aU qp.out Tq.out HM.out).mono ?_;rintro e w7 ⟨rfl,⟨t7,l7⟩,o7⟩;have Uk:=jh l7;have Cc:=jh (nI.out.trans o7 (λj hj=>.inl hj));clear l7 o7 qp nI;go_wp2;go_end0;exact⟨rfl,⟨t7,by rw[Iy.out];exact Uk.out⟩,Cc.out⟩
  ·have hab:side σ (σ i).up=none:=by cases e:side σ (σ i).up with |none=>rfl |some q=>rw[e] at hx;exact absurd rfl hx
   have GV:jQ σ i=σ.put i { σ i with up:=gg }:=by unfold jQ;rw[hab,hp,hgg]
   have RN:jP σ i false=aO (σ.put i { σ i with up:=gg }) p false (((σ.put i { σ i with up:=gg }) i).kd (!false)):=by unfold jP;rw[GV,hp]
   have Mw:fI σ i false=aO (jP σ i false) i (!false) p:=by unfold fI;rw[hp]
   have RJ:fB σ i false=dM (dM (fI σ i false) p) i:=by unfold fB;rw[hp]
   have lk:=R.lk;rw[GV] at lk;have Tp:=jh R.rp;have Tq:=jh R.ri;rw[hp] at Tp Tq;have vE:=jh (aM h R.li R.lp);rw[show jC σ i=0 by unfold jC;rw[R.sd];rfl,R.sd] at vE;have HS2:=jh (λq=>aM (i:=p) (h.dn q) hpn (by rw[hgg];exact vL));rw[hp] at hab;rw[hab] at HS2;rw[show jC σ p=0 by unfold jC;rw[hab]] at HS2;have HL:=jh h;have IB:=jh RN;have Iz:=jh Mw;have Iy:=jh RJ;have HN:=jh hN;have HI:=jh (And.intro R.li (And.intro hpn (And.intro vL lk)));have HP:=jh hp;have HG:=jh hgg;have HM:=jh hn;clear h R GV RN Mw RJ hab hx lk hN hp hgg hpn vL hn;go_in;go_wp2_with fail;apply mO vE;clear vE;rintro e w1 ⟨rfl,qa,rfl⟩;go_wp2_with fail;refine(HS2.out qa).mono ?_;clear HS2;rintro e w2 ⟨rfl,qb,rfl⟩;have mQ:=jh ((HL.out.dn qa).dn qb);have fK:Hid (Off [g] w ((w.drewN qa).drewN qb)):=jh (((Off.refl [g] w).drewN qa).drewN qb);obtain⟨w2,hw2⟩:=nG ((w.drewN qa).drewN qb);rw[←hw2] at mQ fK⊢;clear hw2 HL c1 k2 kp2;have c1:=mQ.out.c1;rw[HN.out] at c1;have f2:=mQ.out.nr.fz (i*9+2);have k2:=mQ.out.nr.c2 HI.out.1;rw[HP.out] at k2;have l3:bT (w2.setCell ⟨g,i*9+2,none⟩ (.int .i64 gg)) b g n cap (σ.put i { σ i with up:=gg }) li tt ed:=mQ.out.nodes ((Off.refl [g] w2).setCell sj _) (mQ.out.nr.s2 i gg);have iH:=jh l3;have dh:=jh (fK.out.setCell (p:=⟨g,i*9+2,none⟩) sj (.int .i64 gg));obtain⟨w3,hw3⟩:=nE (w2.setCell ⟨g,i*9+2,none⟩ (.int .i64 gg));rw[hw3] at iH dh;have HW3:=jh hw3;clear l3 mQ fK hw3;have c1':=iH.out.c1;rw[HN.out] at c1';have kk:=iH.out.nr.c1 HI.out.1;obtain⟨kv,hkv⟩:∃q,((σ.put i { σ i with up:=gg }) i).k1=q:=⟨_,rfl⟩;rw[hkv] at kk
   have xJ:kv≤n:=by rw[←hkv];exact HI.out.2.2.2
   have HKV:=jh hkv;have l4:=λW (H:bT W b g n cap (σ.put i { σ i with up:=gg }) li tt ed)=>d9 false H HI.out.2.1 xJ;have HH:=jh l4;clear l4 hkv xJ;rw[←HW3.out] at kk c1' iH dh;clear HW3;go_wp2_with fail;refine(HH.out _ iH.out).mono ?_;clear HH;rintro e w4 ⟨rfl,l4,o4⟩
   have e4:aO (σ.put i { σ i with up:=gg }) p false kv=jP σ i false:=by rw[IB.out,←HKV.out];rfl
   rw[e4] at l4;have oK:=jh l4;have jw:=jh (dh.out.trans o4 (λj hj=>.inl hj));clear l4 o4 iH dh kk e4;go_wp2_with fail;refine(d9 (true) oK.out HI.out.1 HI.out.2.1).mono ?_;rintro e w5 ⟨rfl,l5,o5⟩
   have e5:aO (jP σ i false) i true p=fI σ i false:=by rw[Iz.out];rfl
   rw[e5] at l5;have vG:=jh l5;have nk:=jh (jw.out.trans o5 (λj hj=>.inl hj));clear l5 o5 oK jw e5;go_wp2_with fail;refine(aU vG.out Tp.out HM.out).mono ?_;rintro e w6 ⟨rfl,⟨t6,l6⟩,o6⟩;have qp:=jh l6;have nI:=jh (nk.out.trans o6 (λj hj=>.inl hj));clear l6 o6 vG nk;go_wp2_with fail;refine(aU qp.out Tq.out HM.out).mono ?_;rintro e w7 ⟨rfl,⟨t7,l7⟩,o7⟩;have Uk:=jh l7;have Cc:=jh (nI.out.trans o7 (λj hj=>.inl hj));clear l7 o7 qp nI;go_wp2;go_end0;exact⟨rfl,⟨t7,by rw[Iy.out];exact Uk.out⟩,Cc.out⟩
 ·by_cases hx:(side σ (σ i).up).isSome=true
  ·obtain⟨ab,hab⟩:=Option.isSome_iff_exists.1 hx
   have GV:jQ σ i=aO σ gg ab i:=by unfold jQ;rw[hab,hp,hgg]
   have RN:jP σ i true=aO (aO σ gg ab i) p true (((aO σ gg ab i) i).kd (!true)):=by unfold jP;rw[GV,hp]
   have Mw:fI σ i true=aO (jP σ i true) i (!true) p:=by unfold fI;rw[hp]
   have RJ:fB σ i true=dM (dM (fI σ i true) p) i:=by unfold fB;rw[hp]
   have lk:=R.lk;rw[GV] at lk;have Tp:=jh R.rp;have Tq:=jh R.ri;rw[hp] at Tp Tq;have vE:=jh (aM h R.li R.lp);rw[show jC σ i=1 by unfold jC;rw[R.sd];rfl,R.sd] at vE;have HS2:=jh (λq=>aM (i:=p) (h.dn q) hpn (by rw[hgg];exact vL));rw[hp] at hab;rw[hab] at HS2;rw[show jC σ p=sdI ab by unfold jC;rw[hab]] at HS2;have HL:=jh h;have IB:=jh RN;have Iz:=jh Mw;have Iy:=jh RJ;have HN:=jh hN;have HI:=jh (And.intro R.li (And.intro hpn (And.intro vL lk)));have HP:=jh hp;have HG:=jh hgg;have HM:=jh hn;clear h R GV RN Mw RJ hab hx lk hN hp hgg hpn vL hn;go_in;go_wp2_with fail;apply mO vE;clear vE;rintro e w1 ⟨rfl,qa,rfl⟩;go_wp2_with fail;refine(HS2.out qa).mono ?_;clear HS2;rintro e w2 ⟨rfl,qb,rfl⟩;have mQ:=jh ((HL.out.dn qa).dn qb);have fK:Hid (Off [g] w ((w.drewN qa).drewN qb)):=jh (((Off.refl [g] w).drewN qa).drewN qb);obtain⟨w2,hw2⟩:=nG ((w.drewN qa).drewN qb);rw[←hw2] at mQ fK⊢;clear hw2 HL c1 k2 kp2;go_wp2_with fail;refine(d9 ab mQ.out HI.out.2.2.1 HI.out.1).mono ?_;rintro e w3 ⟨rfl,l3,o3⟩;have iH:=jh l3;have dh:=jh (fK.out.trans o3 (λj hj=>.inl hj));clear l3 o3 mQ fK;have c1:=iH.out.c1;rw[HN.out] at c1;have kk:=iH.out.nr.c0 HI.out.1;obtain⟨kv,hkv⟩:=nE (((aO σ gg ab i) i).k0);rw[hkv] at kk
   have xJ:kv≤n:=by rw[←hkv];exact HI.out.2.2.2
   have HKV:=jh hkv;have l4:=λW (H:bT W b g n cap (aO σ gg ab i) li tt ed)=>d9 true H HI.out.2.1 xJ;have HH:=jh l4;clear l4 hkv xJ;go_wp2_with fail;refine(HH.out _ iH.out).mono ?_;clear HH;rintro e w4 ⟨rfl,l4,o4⟩
   have e4:aO (aO σ gg ab i) p true kv=jP σ i true:=by rw[IB.out,←HKV.out];rfl
   rw[e4] at l4;have oK:=jh l4;have jw:=jh (dh.out.trans o4 (λj hj=>.inl hj));clear l4 o4 iH dh kk e4;go_wp2_with fail;refine(d9 (false) oK.out HI.out.1 HI.out.2.1).mono ?_;rintro e w5 ⟨rfl,l5,o5⟩
   have e5:aO (jP σ i true) i false p=fI σ i true:=by rw[Iz.out];rfl
   rw[e5] at l5;have vG:=jh l5;have nk:=jh (jw.out.trans o5 (λj hj=>.inl hj));clear l5 o5 oK jw e5;go_wp2_with fail;refine(aU vG.out Tp.out HM.out).mono ?_;rintro e w6 ⟨rfl,⟨t6,l6⟩,o6⟩;have qp:=jh l6;have nI:=jh (nk.out.trans o6 (λj hj=>.inl hj));clear l6 o6 vG nk;go_wp2_with fail;refine(aU qp.out Tq.out HM.out).mono ?_;rintro e w7 ⟨rfl,⟨t7,l7⟩,o7⟩;have Uk:=jh l7;have Cc:=jh (nI.out.trans o7 (λj hj=>.inl hj));clear l7 o7 qp nI;go_wp2;go_end0;exact⟨rfl,⟨t7,by rw[Iy.out];exact Uk.out⟩,Cc.out⟩
  ·have hab:side σ (σ i).up=none:=by cases e:side σ (σ i).up with |none=>rfl |some q=>rw[e] at hx;exact absurd rfl hx
   have GV:jQ σ i=σ.put i { σ i with up:=gg }:=by unfold jQ;rw[hab,hp,hgg]
   have RN:jP σ i true=aO (σ.put i { σ i with up:=gg }) p true (((σ.put i { σ i with up:=gg }) i).kd (!true)):=by unfold jP;rw[GV,hp]
   have Mw:fI σ i true=aO (jP σ i true) i (!true) p:=by unfold fI;rw[hp]
   have RJ:fB σ i true=dM (dM (fI σ i true) p) i:=by unfold fB;rw[hp]
   have lk:=R.lk;rw[GV] at lk;have Tp:=jh R.rp;have Tq:=jh R.ri;rw[hp] at Tp Tq;have vE:=jh (aM h R.li R.lp);rw[show jC σ i=1 by unfold jC;rw[R.sd];rfl,R.sd] at vE;have HS2:=jh (λq=>aM (i:=p) (h.dn q) hpn (by rw[hgg];exact vL));rw[hp] at hab;rw[hab] at HS2;rw[show jC σ p=0 by unfold jC;rw[hab]] at HS2;have HL:=jh h;have IB:=jh RN;have Iz:=jh Mw;have Iy:=jh RJ;have HN:=jh hN;have HI:=jh (And.intro R.li (And.intro hpn (And.intro vL lk)));have HP:=jh hp;have HG:=jh hgg;have HM:=jh hn;clear h R GV RN Mw RJ hab hx lk hN hp hgg hpn vL hn;go_in;go_wp2_with fail;apply mO vE;clear vE;rintro e w1 ⟨rfl,qa,rfl⟩;go_wp2_with fail;refine(HS2.out qa).mono ?_;clear HS2;rintro e w2 ⟨rfl,qb,rfl⟩;have mQ:=jh ((HL.out.dn qa).dn qb);have fK:Hid (Off [g] w ((w.drewN qa).drewN qb)):=jh (((Off.refl [g] w).drewN qa).drewN qb);obtain⟨w2,hw2⟩:=nG ((w.drewN qa).drewN qb);rw[←hw2] at mQ fK⊢;clear hw2 HL c1 k2 kp2;have c1:=mQ.out.c1;rw[HN.out] at c1;have f2:=mQ.out.nr.fz (i*9+2);have k2:=mQ.out.nr.c2 HI.out.1;rw[HP.out] at k2;have l3:bT (w2.setCell ⟨g,i*9+2,none⟩ (.int .i64 gg)) b g n cap (σ.put i { σ i with up:=gg }) li tt ed:=mQ.out.nodes ((Off.refl [g] w2).setCell sj _) (mQ.out.nr.s2 i gg);have iH:=jh l3;have dh:=jh (fK.out.setCell (p:=⟨g,i*9+2,none⟩) sj (.int .i64 gg));obtain⟨w3,hw3⟩:=nE (w2.setCell ⟨g,i*9+2,none⟩ (.int .i64 gg));rw[hw3] at iH dh;have HW3:=jh hw3;clear l3 mQ fK hw3;have c1':=iH.out.c1;rw[HN.out] at c1';have kk:=iH.out.nr.c0 HI.out.1;obtain⟨kv,hkv⟩:∃q,((σ.put i { σ i with up:=gg }) i).k0=q:=⟨_,rfl⟩;rw[hkv] at kk
   have xJ:kv≤n:=by rw[←hkv];exact HI.out.2.2.2
   have HKV:=jh hkv;have l4:=λW (H:bT W b g n cap (σ.put i { σ i with up:=gg }) li tt ed)=>d9 true H HI.out.2.1 xJ;have HH:=jh l4;clear l4 hkv xJ;rw[←HW3.out] at kk c1' iH dh;clear HW3;go_wp2_with fail;refine(HH.out _ iH.out).mono ?_;clear HH;rintro e w4 ⟨rfl,l4,o4⟩
   have e4:aO (σ.put i { σ i with up:=gg }) p true kv=jP σ i true:=by rw[IB.out,←HKV.out];rfl
   rw[e4] at l4;have oK:=jh l4;have jw:=jh (dh.out.trans o4 (λj hj=>.inl hj));clear l4 o4 iH dh kk e4;go_wp2_with fail;refine(d9 (false) oK.out HI.out.1 HI.out.2.1).mono ?_;rintro e w5 ⟨rfl,l5,o5⟩
   have e5:aO (jP σ i true) i false p=fI σ i true:=by rw[Iz.out];rfl
   rw[e5] at l5;have vG:=jh l5;have nk:=jh (jw.out.trans o5 (λj hj=>.inl hj));clear l5 o5 oK jw e5;go_wp2_with fail;refine(aU vG.out Tp.out HM.out).mono ?_;rintro e w6 ⟨rfl,⟨t6,l6⟩,o6⟩;have qp:=jh l6;have nI:=jh (nk.out.trans o6 (λj hj=>.inl hj));clear l6 o6 vG nk;go_wp2_with fail;refine(aU qp.out Tq.out HM.out).mono ?_;rintro e w7 ⟨rfl,⟨t7,l7⟩,o7⟩;have Uk:=jh l7;have Cc:=jh (nI.out.trans o7 (λj hj=>.inl hj));clear l7 o7 qp nI;go_wp2;go_end0;exact⟨rfl,⟨t7,by rw[Iy.out];exact Uk.out⟩,Cc.out⟩
end
structure Zone where
 low:Nat
 high:Nat
def Zone.has (z:Zone) (k:Nat):Prop:=z.low≤k∧k<z.high
structure Inner (z:Zone) (w w':World):Prop where
 dO:Below z.low w w'
 high:∀k,z.high≤k→w'.heap[k]?=w.heap[k]?
theorem Inner.refl (z:Zone) (w:World):Inner z w w:=⟨Below.refl _ _,λ_ _=>rfl⟩
theorem Inner.trans {z:Zone} {w w1 w2:World} (h:Inner z w w1) (h':Inner z w1 w2):Inner z w w2:=⟨h.dO.trans h'.dO,λk hk=>(h'.high k hk).trans (h.high k hk)⟩
theorem Inner.setCell {z:Zone} {w w1:World} (h:Inner z w w1) {p:Addr} (hp:z.has p.block) (v:Value):Inner z w (w1.setCell p v):=⟨h.dO.setCell hp.1 v,λk hk=>(Below.heap_setCell _ _ _ _ (oC hp.2)).trans (h.high k hk)⟩
theorem Inner.drewN {z:Zone} {w w1:World} (h:Inner z w w1) (q:Nat):Inner z w (w1.drewN q):=⟨below_drewN h.dO q,h.high⟩
theorem Inner.drew {z:Zone} {w w1:World} (h:Inner z w w1):Inner z w w1.drew:=⟨h.dO.drew,h.high⟩
theorem Inner.out {z:Zone} {w w1:World} (h:Inner z w w1) {k:Nat} (hk:¬z.has k):w1.heap[k]?=w.heap[k]?:=by
 by_cases c:k<z.low
 ·exact h.dO.block k c
 ·exact h.high k (by unfold Zone.has at hk;omega)
theorem Row.inner {z:Zone} {w w1:World} {g n:Nat} {f:Nat→Value} (h:Row w g n f) (hi:Inner z w w1) (hg:¬z.has g):Row w1 g n f:=h.of_block (hi.out hg)
theorem Ld {z:Zone} {w w1:World} {base:Nat} {e:TypeId} {size:Nat} {v:Value} {n:Nat} {xs:List Value} (h:w.ownsRow base e size v n xs) (hi:Inner z w w1) (hg:z.high≤base):w1.ownsRow base e size v n xs:=by
 obtain⟨h1,h2⟩:=h;refine⟨h1,h2.imp id ?_⟩;rintro⟨g,cap,cur,e1,e2,e3,e4⟩;exact⟨g,cap,cur,e1,e2,(hi.high g om).trans e3,e4⟩
structure UF (n:Nat) (up lab h:Nat→Nat) (H:Nat):Prop where
 lt:∀i<n,up i<n
 inc:∀i<n,up i≠i→h i<h (up i)
 bd:∀i<n,h i≤H
 par:∀i<n,lab (up i)=lab i
 one:∀i j,i<n→j<n→up i=i→up j=j→lab i=lab j→i=j
def dU (n:Nat) (lab:Nat→Nat) (i:Nat):Nat:=((List.range n).filter λj=>decide (lab j=lab i)).length
theorem BL (n:Nat) (lab:Nat→Nat) (i:Nat):dU n lab i≤n:=by
 have:=List.length_filter_le (λj=>decide (lab j=lab i)) (List.range n);unfold dU;simpa using this
theorem Wo (n:Nat) (k:Nat→Nat):iV n k≤n:=by
 have:=List.length_filter_le (λi=>decide (k i=i)) (List.range n);unfold iV;simpa using this
theorem UF.Rl {n:Nat} {up lab h:Nat→Nat} {H:Nat} (U:UF n up lab h H) {a:Nat} (ha:a<n) (hr:up a≠a):
  UF n (λi=>if i=a then up (up a) else up i) lab h H∧(∀i<n,((if i=a then up (up a) else up i)=i↔up i=i))∧h a<h (up (up a)):=by
 have hp:=U.lt a ha;have h1:=U.inc a ha hr
 have h2:h a<h (up (up a)):=by
  by_cases c:up (up a)=up a
  ·rw[c];exact h1
  ·have:=U.inc (up a) hp c;omega
 have hroot:∀i<n,((if i=a then up (up a) else up i)=i↔up i=i):=λi _=>by
  by_cases c:i=a
  ·subst c;rw[if_pos rfl];constructor
   ·intro e;rw[e] at h2;omega
   ·intro e;exact absurd e hr
  ·rw[if_neg c]
 refine⟨⟨λi hi=>?_,λi hi hne=>?_,U.bd,λi hi=>?_,λi j hi hj h3 h4 h5=>U.one i j hi hj ((hroot i hi).1 h3) ((hroot j hj).1 h4) h5⟩,hroot,h2⟩
 ·(try dsimp only);split
  ·exact U.lt _ hp
  ·exact U.lt i hi
 ·(try dsimp only at hne⊢)
  by_cases c:i=a
  ·subst c;rw[if_pos rfl];exact h2
  ·rw[if_neg c] at hne⊢;exact U.inc i hi hne
 ·(try dsimp only);split
  ·rename_i c;subst c;rw[U.par _ hp,U.par _ ha]
  ·exact U.par i hi
theorem UF.hang {n:Nat} {up lab h:Nat→Nat} {H:Nat} (U:UF n up lab h H) (K:gP lab) {a c x y:Nat} (hx:x<n) (hy:y<n) (rx:up x=x) (ry:up y=y) (hne:x≠y) (hl:(lab a=lab x∧lab c=lab y)∨(lab a=lab y∧lab c=lab x)):
  UF n (λi=>if i=y then x else up i) (aW lab a c) (λi=>if i=x then max (h x) (h y+1) else h i) (H+1):=by
 have hje:=sI K a c
 have hpar:∀i<n,aW lab a c (up i)=aW lab a c i:=λi hi=>by
  rw[hje];exact .inl (U.par i hi)
 refine⟨λi hi=>?_,λi hi hn=>?_,λi hi=>?_,λi hi=>?_,λi j hi hj h3 h4 h5=>?_⟩
 ·(try dsimp only);split
  ·exact hx
  ·exact U.lt i hi
 ·(try dsimp only at hn⊢)
  by_cases c1:i=y
  ·subst c1;rw[if_pos rfl,if_neg (λe=>hne e.symm),if_pos rfl];omega
  ·rw[if_neg c1] at hn⊢;have h1:=U.inc i hi hn
   by_cases c2:i=x
   ·subst c2;exact absurd rx hn
   ·rw[if_neg c2]
    by_cases c3:up i=x
    ·rw[if_pos c3];rw[c3] at h1;omega
    ·rw[if_neg c3];exact h1
 ·have:=U.bd i hi;have:=U.bd x hx;have:=U.bd y hy
  (try dsimp only);split<;>omega
 ·(try dsimp only);split
  ·rename_i c1;subst c1;rw[hje]
   rcases hl with⟨h1,h2⟩ |⟨h1,h2⟩
   ·exact .inr (.inl ⟨h1.symm,h2.symm⟩)
   ·exact .inr (.inr ⟨h2.symm,h1.symm⟩)
  ·exact hpar i hi
 ·(try dsimp only at h3 h4)
  have g1:i≠y:=λe=>by rw[if_pos e] at h3;exact hne (by rw[h3,e])
  have g2:j≠y:=λe=>by rw[if_pos e] at h4;exact hne (by rw[h4,e])
  rw[if_neg g1] at h3;rw[if_neg g2] at h4;rw[hje] at h5
  rcases h5 with h5 |⟨h5,h6⟩ |⟨h5,h6⟩
  ·exact U.one i j hi hj h3 h4 h5
  ·rcases hl with⟨h1,h2⟩ |⟨h1,h2⟩
   ·exact absurd (U.one j y hj hy h4 ry (h6.trans h2)) g2
   ·exact absurd (U.one i y hi hy h3 ry (h5.trans h1)) g1
  ·rcases hl with⟨h1,h2⟩ |⟨h1,h2⟩
   ·exact absurd (U.one i y hi hy h3 ry (h5.trans h2)) g1
   ·exact absurd (U.one j y hj hy h4 ry (h6.trans h1)) g2
theorem Gp (k:Nat→Nat) (u v:Nat):aW k u v=aW k v u:=by
 funext i;unfold aW;rw[Nat.max_comm,Nat.min_comm]
theorem Ef {k:Nat→Nat} {u v u' v':Nat} (h1:k u=k u') (h2:k v=k v'):aW k u v=aW k u' v':=by
 funext i;unfold aW;rw[h1,h2]
theorem Wh {n:Nat} {p q r:Nat→Bool} (h:∀i,r i=(p i||q i)) (hd:∀i,¬(p i=true∧q i=true)):((List.range n).filter r).length=((List.range n).filter p).length+((List.range n).filter q).length:=by
 induction n with
 |zero=>rfl
 |succ n ih=>
  rw[List.range_succ,List.filter_append,List.filter_append,List.filter_append,List.length_append,List.length_append,List.length_append,ih];have h1:=h n;have h2:=hd n
  cases hp:p n<;>cases hq:q n<;>simp[hp,hq] at h1 h2<;>simp[hp,hq,h1]<;>omega
theorem Ah {n:Nat} {lab:Nat→Nat} (K:gP lab) {x y:Nat} (hne:lab x≠lab y) (i:Nat) (hi:lab i=lab x∨lab i=lab y):dU n (aW lab x y) i=dU n lab x+dU n lab y:=by
 unfold dU;refine Wh (λj=>?_) (λj=>?_)
 ·have:=sI K x y j i;rw[Bool.eq_iff_iff];simp only[Bool.or_eq_true,decide_eq_true_eq,this]
  rcases hi with hi |hi<;>omega
 ·simp only[decide_eq_true_eq];omega
theorem xU {n:Nat} {lab:Nat→Nat} (K:gP lab) {x y i:Nat} (h1:lab i≠lab x) (h2:lab i≠lab y):dU n (aW lab x y) i=dU n lab i:=by
 unfold dU
 congr 1
 refine List.filter_congr λj _=>?_;have:=sI K x y j i;rw[Bool.eq_iff_iff];simp only[decide_eq_true_eq,this];omega
def dsC (b ub lb sb n cnt:Nat):Nat→Value
 |0=>.pointer (some ⟨b,0,none⟩)
 |1=>.slice (some ⟨ub,0,none⟩) n n
 |2=>.slice (some ⟨lb,0,none⟩) n n
 |3=>.slice (some ⟨sb,0,none⟩) n n
 |_=>.int .i64 (cnt:Nat)
def iK (f:Nat→Nat) (i:Nat):Value:=.int .i64 (f i:Nat)
structure nL (w:World) (base:Zone) (b ub lb sb n:Nat) (up ls sz:Nat→Nat) (cnt:Nat):Prop where
 st:Row w b 5 (dsC b ub lb sb n cnt)
 rup:Row w ub n (iK up)
 rls:Row w lb n (iK ls)
 yD:Row w sb n (iK sz)
 ne:b≠ub∧b≠lb∧b≠sb∧ub≠lb∧ub≠sb∧lb≠sb
 lo:base.has b∧base.has ub∧base.has lb∧base.has sb
section
variable {w w':World} {base:Zone} {b ub lb sb n cnt:Nat} {up ls sz:Nat→Nat}
theorem nL.size (h:nL w base b ub lb sb n up ls sz cnt):b<w.heap.size∧ub<w.heap.size∧lb<w.heap.size∧sb<w.heap.size:=⟨h.st.lt,h.rup.lt,h.rls.lt,h.yD.lt⟩
theorem nL.below (h:nL w base b ub lb sb n up ls sz cnt) (hb:Below w.heap.size w w'):nL w' base b ub lb sb n up ls sz cnt:=
 ⟨h.st.below hb h.st.lt,h.rup.below hb h.rup.lt,h.rls.below hb h.rls.lt,h.yD.below hb h.yD.lt,h.ne,h.lo⟩
theorem nL.drewN (h:nL w base b ub lb sb n up ls sz cnt) (q:Nat):nL (w.drewN q) base b ub lb sb n up ls sz cnt:=⟨h.st,h.rup,h.rls,h.yD,h.ne,h.lo⟩
theorem nL.drew (h:nL w base b ub lb sb n up ls sz cnt):nL w.drew base b ub lb sb n up ls sz cnt:=⟨h.st,h.rup,h.rls,h.yD,h.ne,h.lo⟩
theorem wQ (f:Nat→Nat) (i v j:Nat):(if j=i then Value.int .i64 (v:Nat) else iK f j)=iK (λk=>if k=i then v else f k) j:=by
 unfold iK
 by_cases c:j=i<;>simp[c]
theorem nL.rG (h:nL w base b ub lb sb n up ls sz cnt) (i v:Nat):nL (w.setCell ⟨ub,i,none⟩ (.int .i64 (v:Nat))) base b ub lb sb n (λk=>if k=i then v else up k) ls sz cnt:=
 ⟨h.st.setOther h.ne.1 _,(h.rup.set i _).congr λj _=>wQ up i v j,h.rls.setOther (λe=>h.ne.2.2.2.1 e.symm) _,h.yD.setOther (λe=>h.ne.2.2.2.2.1 e.symm) _,h.ne,h.lo⟩
theorem nL.Dj (h:nL w base b ub lb sb n up ls sz cnt) (i v:Nat):nL (w.setCell ⟨lb,i,none⟩ (.int .i64 (v:Nat))) base b ub lb sb n up (λk=>if k=i then v else ls k) sz cnt:=
 ⟨h.st.setOther h.ne.2.1 _,h.rup.setOther h.ne.2.2.2.1 _,(h.rls.set i _).congr λj _=>wQ ls i v j,h.yD.setOther (λe=>h.ne.2.2.2.2.2 e.symm) _,h.ne,h.lo⟩
theorem nL.Pm (h:nL w base b ub lb sb n up ls sz cnt) (i v:Nat):nL (w.setCell ⟨sb,i,none⟩ (.int .i64 (v:Nat))) base b ub lb sb n up ls (λk=>if k=i then v else sz k) cnt:=
 ⟨h.st.setOther h.ne.2.2.1 _,h.rup.setOther h.ne.2.2.2.2.1 _,h.rls.setOther h.ne.2.2.2.2.2 _,(h.yD.set i _).congr λj _=>wQ sz i v j,h.ne,h.lo⟩
theorem nL.AR (h:nL w base b ub lb sb n up ls sz cnt) (v:Nat):nL (w.setCell ⟨b,4,none⟩ (.int .i64 (v:Nat))) base b ub lb sb n up ls sz v:=
 ⟨(h.st.set 4 _).congr λj hj=>by
  by_cases e:j=4
  ·subst e;rw[if_pos rfl];rfl
  ·rw[if_neg e];have:j=0∨j=1∨j=2∨j=3:=om
   rcases this with rfl |rfl |rfl |rfl<;>rfl,h.rup.setOther (λe=>h.ne.1 e.symm) _,h.rls.setOther (λe=>h.ne.2.1 e.symm) _,h.yD.setOther (λe=>h.ne.2.2.1 e.symm) _,h.ne,h.lo⟩
end
def DS (w:World) (base:Zone) (b n:Nat) (lab:Nat→Nat):Prop:=
 ∃(ub lb sb:Nat) (up ls sz h:Nat→Nat) (H:Nat),nL w base b ub lb sb n up ls sz (iV n lab)∧UF n up lab h H∧gP lab∧∀i<n,up i=i→ls i=lab i∧sz i=dU n lab i
theorem DS.below {w w':World} {base:Zone} {b n:Nat} {lab:Nat→Nat} (h:DS w base b n lab) (hb:Below w.heap.size w w'):DS w' base b n lab:=by
 obtain⟨ub,lb,sb,up,ls,sz,h,H,h1,h2⟩:=h;exact⟨ub,lb,sb,up,ls,sz,h,H,h1.below hb,h2⟩
theorem DS.zone {w w':World} {base:Zone} {b n:Nat} {lab:Nat→Nat} {B:Nat} (h:DS w base b n lab) (hb:Below B w w') (hB:base.high≤B):DS w' base b n lab:=by
 obtain⟨ub,lb,sb,up,ls,sz,h,H,h1,h2⟩:=h;refine⟨ub,lb,sb,up,ls,sz,h,H,⟨h1.st.below hb ?_,h1.rup.below hb ?_,h1.rls.below hb ?_,h1.yD.below hb ?_,h1.ne,h1.lo⟩,h2⟩
 ·have:=h1.lo.1.2;omega
 ·have:=h1.lo.2.1.2;omega
 ·have:=h1.lo.2.2.1.2;omega
 ·have:=h1.lo.2.2.2.2;omega
theorem DS.drew {w:World} {base:Zone} {b n:Nat} {lab:Nat→Nat} (h:DS w base b n lab):DS w.drew base b n lab:=by
 obtain⟨ub,lb,sb,up,ls,sz,h,H,h1,h2⟩:=h;exact⟨ub,lb,sb,up,ls,sz,h,H,h1.drew,h2⟩
theorem DS.widen {w:World} {z z':Zone} {b n:Nat} {lab:Nat→Nat} (h:DS w z b n lab) (h1:z'.low≤z.low) (h2:z.high≤z'.high):DS w z' b n lab:=by
 obtain⟨ub,lb,sb,up,ls,sz,h,H,m,r⟩:=h;have g:∀k,z.has k→z'.has k:=λk hk=>⟨Nat.le_trans h1 hk.1,Nat.lt_of_lt_of_le hk.2 h2⟩;exact⟨ub,lb,sb,up,ls,sz,h,H,⟨m.st,m.rup,m.rls,m.yD,m.ne,g _ m.lo.1,g _ m.lo.2.1,g _ m.lo.2.2.1,g _ m.lo.2.2.2⟩,r⟩
theorem DS.lt {w:World} {base:Zone} {b n:Nat} {lab:Nat→Nat} (h:DS w base b n lab):base.has b∧b<w.heap.size:=by
 obtain⟨ub,lb,sb,up,ls,sz,h,H,h1,h2⟩:=h;exact⟨h1.lo.1,h1.st.lt⟩
theorem Tryz.YZ:(Tryz.prog.info? 290).isSome=true:=by kernel_rfl
theorem K5 (a:Addr) (w:World):(binOp .eql 270 (.pointer (some a)) (.pointer (some a))).run Tryz.prog w=.ok (.bool true) w:=by
 obtain⟨j,hj⟩:=Option.isSome_iff_exists.1 Tryz.YZ;exact run_eql_ptr_same w a Tryz.underlying270 hj
theorem zZ (b:Nat) (w:World) (h:w.cell? ⟨b,0,none⟩=some (.pointer (some ⟨b,0,none⟩))):
  Calls Tryz.prog 195 #[.pointer (some ⟨b,0,none⟩)] w λe w'=>e=.returned (.bool true)∧w=w':=by
 have eq:=K5 ⟨b,0,none⟩;go_in;go_wp2;go_ret;exact⟨rfl,rfl⟩
theorem JV (b ub n a c:Nat) (w:World) (h:w.cell? ⟨b,0,none⟩=some (.pointer (some ⟨b,0,none⟩))) (h1:w.cell? ⟨b,1,none⟩=some (.slice (some ⟨ub,0,none⟩) n c)) (ha:a<n):
  Calls Tryz.prog 196 #[.pointer (some ⟨b,0,none⟩),.int .i64 (a:Nat)] w λe w'=>e=.returned (.bool true)∧w=w':=by
 have HV:=jh (zZ b w h);have k1:decide ((a:Int)≥0)=true:=dP om;have k2:decide ((a:Int)<(n:Int))=true:=dP om;go_in;go_wp2_with fail;apply mO HV;rintro e w' ⟨rfl,rfl⟩;go_wp2;go_ret;exact⟨rfl,rfl⟩
theorem Ab (base:Zone) (b ub lb sb n cnt:Nat) (up ls sz lab h:Nat→Nat) (H a:Nat) (w:World) (hM:nL w base b ub lb sb n up ls sz cnt) (hU:UF n up lab h H) (ha:a<n):
  Calls Tryz.prog 197 #[.pointer (some ⟨b,0,none⟩),.int .i64 (a:Nat)] w λe w'=>∃(r:Nat) (up':Nat→Nat),e=.returned (.int .i64 (r:Nat))∧r<n∧up' r=r∧lab r=lab a∧nL w' base b ub lb sb n up' ls sz cnt∧UF n up' lab h H∧(∀i<n,(up' i=i↔up i=i))∧Inner base w w':=by
 have HM:=jh hM;have HU:=jh hU;clear hM hU;go_in;go_wp2
 go_step3
 go_wp2
 go_step3
 go_wp2
 go_loopw [1] (λi wr=>∃(x:Nat) (u:Nat→Nat),x<n∧i=.int .i64 x∧lab x=lab a∧Hid (nL wr base b ub lb sb n u ls sz cnt)∧Hid (UF n u lab h H)∧Hid (∀i<n,(u i=i↔up i=i))∧Inner base w wr) (λi _=>H-h (intOf i).toNat)
 case atStart=>exact⟨a,up,ha,rfl,rfl,HM,HU,jh (λ_ _=>Iff.rfl),Inner.refl _ _⟩
 case round=>
  clear HM HU;obtain⟨x,u,hx,rfl,hla,HM,HU,HI,dO⟩:=hrel;have c1:wr.cell? ⟨b,1,none⟩=some (.slice (some ⟨ub,0,none⟩) n n):=HM.out.st.c 1;have c2:wr.cell? ⟨ub,x,none⟩=some (.int .i64 (u x:Nat)):=HM.out.rup.cell hx;have hxi:(0:Int)≤x∧(x:Int)<n:=om
  by_cases hr:u x=x
  ·have hz:(((u x:Nat):Int)==(x:Int))=true:=by simp[hr]
   have HR:=jh hr;generalize u x=p at c2 hz⊢;clear hr;go_wp2_with fail;rw[Exit.noGoto_ret];go_ret;exact⟨x,u,rfl,hx,HR.out,hla,HM.out,HU.out,HI.out,dO⟩
  ·have hz:(((u x:Nat):Int)==(x:Int))=false:=by simp;omega
   have hp:=HU.out.lt x hx;have c3:wr.cell? ⟨ub,u x,none⟩=some (.int .i64 (u (u x):Nat)):=HM.out.rup.cell hp;have hpi:(0:Int)≤(u x:Nat)∧((u x:Nat):Int)<n:=om;have z1:=HM.out.rup.frozen x;obtain⟨U2,hroot,hlt2⟩:=HU.out.Rl hx hr;have hinc:=HU.out.inc x hx hr;have hpp:=HU.out.lt _ hp;have M2:=HM.out.rG x (u (u x))
   have ahW:lab (u (u x))=lab a:=by rw[HU.out.par _ hp,HU.out.par _ hx,hla]
   have c4:(wr.setCell ⟨ub,x,none⟩ (.int .i64 (u (u x):Nat))).cell? ⟨b,1,none⟩=some (.slice (some ⟨ub,0,none⟩) n n):=M2.st.c 1
   have c5:(wr.setCell ⟨ub,x,none⟩ (.int .i64 (u (u x):Nat))).cell? ⟨ub,x,none⟩=some (.int .i64 (u (u x):Nat)):=by have:=M2.rup.cell hx;rw[iK,if_pos rfl] at this;exact this
   have Ka:=jh U2;have kG:=jh M2;have HR2:=jh hroot
   have ahU:H-h (u (u x))<H-h x:=by
    have:=HU.out.bd _ hpp;omega
   clear hlt2;clear U2 M2 hroot hinc hr;have hlo:=HM.out.lo.2.1;have Ue:=jh (λi hi=>(HR2.out i hi).trans (HI.out i hi));clear HR2 HI HM HU;go_wp2
   go_still_tail 12,(by kernel_rfl)
   go_wp2;go_roundw
   case rel=>exact⟨u (u x),_,hpp,rfl,ahW,jh (kG.out.drewN 1),Ka,Ue,(dO.setCell (p:=⟨ub,x,none⟩) hlo _).drew⟩
   case measure=>simpa only[intOf,Int.toNat_natCast] using ahU
theorem DS.ahI {w:World} {base:Zone} {b ub lb sb n cnt:Nat} {up ls sz lab h:Nat→Nat} {H a c x y:Nat} (U:UF n up lab h H) (K:gP lab) (hls:∀i<n,up i=i→ls i=lab i∧sz i=dU n lab i) (hx:x<n) (hy:y<n) (rx:up x=x) (ry:up y=y) (hne:x≠y)
  (hl:(lab a=lab x∧lab c=lab y)∨(lab a=lab y∧lab c=lab x)) (hcnt:cnt+1=iV n lab)
  (hM:nL w base b ub lb sb n (λk=>if k=y then x else up k) (λk=>if k=x then min (lab x) (lab y) else ls k) (λk=>if k=x then sz x+sz y else sz k) cnt):DS w base b n (aW lab a c):=by
 have ac8:lab x≠lab y:=λe=>hne (U.one x y hx hy rx ry e)
 have hj:aW lab a c=aW lab x y:=by
  rcases hl with⟨h1,h2⟩ |⟨h1,h2⟩
  ·exact Ef h1 h2
  ·rw[Gp];exact Ef h2 h1
 have hcn:iV n (aW lab x y)+1=iV n lab:=uQ K hx hy ac8;rw[hj];refine⟨ub,lb,sb,_,_,_,_,_,(by rw[show iV n (aW lab x y)=cnt by omega];exact hM),by rw[←hj];exact U.hang K hx hy rx ry hne hl,Ee K x y,λi hi hr=>?_⟩
 by_cases e1:i=y
 ·rw[if_pos e1] at hr;exact absurd (hr.trans e1) hne
 ·rw[if_neg e1] at hr
  by_cases e2:i=x
  ·subst e2;rw[if_pos rfl,if_pos rfl];refine⟨?_,?_⟩
   ·unfold aW
    split
    ·rfl
    ·rename_i c1;have:lab i≤lab y∨lab y≤lab i:=Nat.le_total _ _;omega
   ·rw[Ah K ac8 i (.inl rfl),(hls i hx rx).2,(hls y hy ry).2]
  ·rw[if_neg e2,if_neg e2];have h1:lab i≠lab x:=λe=>e2 (U.one i x hi hx hr rx e);have h2:lab i≠lab y:=λe=>e1 (U.one i y hi hy hr ry e);refine⟨?_,?_⟩
   ·rw[(hls i hi hr).1];unfold aW;rw[if_neg om]
   ·rw[(hls i hi hr).2,xU K h1 h2]
theorem Kw (base:Zone) (b n:Nat) (lab:Nat→Nat) (a c:Nat) (w:World) (hD:DS w base b n lab) (ha:a<n) (hc:c<n) (hn:n≤65536):
  Calls Tryz.prog 173 #[.pointer (some ⟨b,0,none⟩),.int .i64 (a:Nat),.int .i64 (c:Nat)] w λe w'=>e=.returned (.tuple #[.bool (decide (lab a≠lab c)),.int .i64 0])∧DS w' base b n (aW lab a c)∧Inner base w w':=by
 obtain⟨ub,lb,sb,up,ls,sz,h,H,hM,hU,hK,hls⟩:=hD;have c0:w.cell? ⟨b,0,none⟩=some (.pointer (some ⟨b,0,none⟩)):=hM.st.c 0;have c1:w.cell? ⟨b,1,none⟩=some (.slice (some ⟨ub,0,none⟩) n n):=hM.st.c 1;have HV:=jh (zZ b w c0);have HA:=jh (JV b ub n a n w c0 c1 ha);have HC:=jh (JV b ub n c n w c0 c1 hc);have HR1:=jh (Ab base b ub lb sb n (iV n lab) up ls sz lab h H a w hM hU ha);have HK:=jh hK;have HLS:=jh hls;clear hM hU hK hls c0 c1;go_in;go_wp2_with fail;apply mO HV;rintro e w' ⟨rfl,rfl⟩;go_wp2_with fail;apply mO HA;rintro e w' ⟨rfl,rfl⟩;go_wp2_with fail;apply mO HC;rintro e w' ⟨rfl,rfl⟩;go_wp2_with fail;apply mO HR1;rintro e w1 ⟨x,up1,rfl,hx,rx1,lx,hM1,hU1,hI1,hb1⟩;have HR2:=jh (Ab base b ub lb sb n (iV n lab) up1 ls sz lab h H c w1 hM1 hU1 hc);clear HV HA HC HR1 hM1 hU1;go_wp2_with fail;apply mO HR2;rintro e w2 ⟨y,Kv,rfl,hy,ry,ly,hM2,Xy,hI2,hb2⟩;have rx:=(hI2 x hx).2 rx1;have nu:=hb1.trans hb2;have ac7:∀i<n,Kv i=i→ls i=lab i∧sz i=dU n lab i:=λi hi hr=>HLS.out i hi ((hI1 i hi).1 ((hI2 i hi).1 hr));have kG:=jh hM2;have Ka:=jh Xy;have HL2:=jh ac7;have HLX:=jh lx;have HLY:=jh ly;have XV:=jh rx;have XU:=jh ry;clear HR2 hI1 hI2 HLS hM2 Xy ac7 rx1 rx ry hb1 hb2 lx ly
 by_cases hxy:x=y
 ·subst hxy;have HE:=jh (show lab a=lab c from HLX.out.symm.trans HLY.out);have hz:((x:Int)==(x:Int))=true:=sj;go_wp2;go_ret2;refine⟨by rw[dF (λhh=>hh HE.out)];rfl,?_,nu⟩;rw[xA HE.out];exact⟨ub,lb,sb,Kv,ls,sz,h,H,kG.out,Ka.out,HK.out,HL2.out⟩
 ·have hz:((x:Int)==(y:Int))=false:=by simp;omega
  have Uh:=jh (show lab x≠lab y from λe=>hxy (Ka.out.one x y hx hy XV.out XU.out e));have hcn:=uQ HK.out hx hy Uh.out;have hcl:=Wo n lab;obtain⟨cn,adn⟩:∃cn,cn+1=iV n lab:=⟨iV n (aW lab x y),hcn⟩;have aoC:cn≤65536:=om;have HCN:=jh adn
  have Nw:=jh (fun(w3:World) (X Y:Nat) (hX:X<n) (hY:Y<n) (rX:Kv X=X) (rY:Kv Y=Y) (hN:X≠Y) (hl:(lab a=lab X∧lab c=lab Y)∨(lab a=lab Y∧lab c=lab X)) (hM:nL w3 base b ub lb sb n (λk=>if k=Y then X else Kv k) (λk=>if k=X then min (lab X) (lab Y) else ls k) (λk=>if k=X then sz X+sz Y else sz k) cn)=>
   DS.ahI (a:=a) (c:=c) Ka.out HK.out HL2.out hX hY rX rY hN hl HCN.out hM)
  have hEq:Hid (decide (lab a≠lab c)=true):=jh (dP (by rw[←HLX.out,←HLY.out];exact Uh.out));have V7:Hid (decide (lab a=lab c)=false):=jh (dF (by rw[←HLX.out,←HLY.out];exact Uh.out))
  have hkc:IntKind.i64.wrap ((iV n lab:Nat)-1)=(cn:Nat):=by rw[IntWalk.i64_in _ om];omega
  have s1:∀q,(w2.drewN q).cell? ⟨b,3,none⟩=some (.slice (some ⟨sb,0,none⟩) n n):=λ_=>kG.out.st.c 3;have s2:∀q,(w2.drewN q).cell? ⟨sb,x,none⟩=some (.int .i64 (sz x:Nat)):=λ_=>kG.out.yD.cell hx;have s3:∀q,(w2.drewN q).cell? ⟨sb,y,none⟩=some (.int .i64 (sz y:Nat)):=λ_=>kG.out.yD.cell hy;have hxi:(0:Int)≤x∧(x:Int)<n:=om;have hyi:(0:Int)≤y∧(y:Int)<n:=om
  have hsx:sz x≤65536:=by rw[(HL2.out x hx XV.out).2];exact Nat.le_trans (BL _ _ _) hn
  have hsy:sz y≤65536:=by rw[(HL2.out y hy XU.out).2];exact Nat.le_trans (BL _ _ _) hn
  clear hcn hcl adn;go_wp2_with fail
  by_cases hlt:sz x<sz y
  ·have k1:decide (((sz x:Nat):Int)<((sz y:Nat):Int))=true:=dP om
   go_quiet (fail)
   clear s1 s2 s3 k1 hlt;have M3:=kG.out.drewN nq;have Ni:Inner base w (w2.drewN nq):=nu.drewN nq;generalize w2.drewN nq=w3 at*;have d1:w3.cell? ⟨b,1,none⟩=some (.slice (some ⟨ub,0,none⟩) n n):=M3.st.c 1;have d2:w3.cell? ⟨ub,x,none⟩=some (.int .i64 (Kv x:Nat)):=M3.rup.cell hx;have d3:=M3.rup.frozen x;have M4:=M3.rG x y;have EP:=Ni.setCell (p:=⟨ub,x,none⟩) M3.lo.2.1 (.int .i64 y);clear M3 Ni kG;go_wp2_with fail;generalize w3.setCell ⟨ub,x,none⟩ (.int .i64 y)=w4 at*;clear d1 d2 d3;have e1:w4.cell? ⟨b,3,none⟩=some (.slice (some ⟨sb,0,none⟩) n n):=M4.st.c 3;have e2:w4.cell? ⟨sb,y,none⟩=some (.int .i64 (sz y:Nat)):=M4.yD.cell hy;have e3:w4.cell? ⟨sb,x,none⟩=some (.int .i64 (sz x:Nat)):=M4.yD.cell hx;have e4:=M4.yD.frozen y;have hws:IntKind.i64.wrap (((sz y:Nat):Int)+((sz x:Nat):Int))=((sz y:Nat):Int)+((sz x:Nat):Int):=IntWalk.i64_in _ om
   have M5:nL (w4.setCell ⟨sb,y,none⟩ (.int .i64 (((sz y:Nat):Int)+((sz x:Nat):Int)))).drew base b ub lb sb n (λk=>if k=x then y else Kv k) ls (λk=>if k=y then sz y+sz x else sz k) (iV n lab):=by rw[←Int.natCast_add];exact(M4.Pm y (sz y+sz x)).drew
   have BS:=(EP.setCell (p:=⟨sb,y,none⟩) M4.lo.2.2.2 (.int .i64 (((sz y:Nat):Int)+((sz x:Nat):Int)))).drew;clear M4 EP
   go_still_tail 15,(by kernel_rfl)
   go_wp2_with fail;generalize (w4.setCell ⟨sb,y,none⟩ (.int .i64 (((sz y:Nat):Int)+((sz x:Nat):Int)))).drew=w5 at*;clear e1 e2 e3 e4 hws;have f1:w5.cell? ⟨b,2,none⟩=some (.slice (some ⟨lb,0,none⟩) n n):=M5.st.c 2
   have f2:w5.cell? ⟨lb,y,none⟩=some (.int .i64 (lab y:Nat)):=by rw[←(HL2.out y hy XU.out).1];exact M5.rls.cell hy
   have f3:w5.cell? ⟨lb,x,none⟩=some (.int .i64 (lab x:Nat)):=by rw[←(HL2.out x hx XV.out).1];exact M5.rls.cell hx
   have f4:=M5.rls.frozen y
   rcases Nat.lt_or_gt_of_ne (show lab y≠lab x from λe=>Uh.out e.symm) with hc1 |hc1
   ·have hci:((lab y:Nat):Int)<((lab x:Nat):Int):=om;have hmin:min (lab y) (lab x)=lab y:=om;have M6:=M5.Dj y (lab y);have g1:(w5.setCell ⟨lb,y,none⟩ (.int .i64 (lab y:Nat))).cell? ⟨b,4,none⟩=some (.int .i64 (iV n lab:Nat)):=M6.st.c 4;have g2:=M6.st.frozen 4;have HF:=jh (Nw.out (((w5.setCell ⟨lb,y,none⟩ (.int .i64 (lab y:Nat))).setCell ⟨b,4,none⟩ (.int .i64 cn)).drew) y x hy hx XU.out XV.out (λe=>hxy e.symm) (.inr ⟨HLX.out.symm,HLY.out.symm⟩) (by rw[hmin];exact(M6.AR cn).drew));have H9:=((BS.setCell (p:=⟨lb,y,none⟩) M5.lo.2.2.1 (.int .i64 (lab y:Nat))).setCell (p:=⟨b,4,none⟩) M6.lo.1 (.int .i64 cn)).drew;clear M5 M6 BS
    go_still_tail 20,(by kernel_rfl)
    go_wp2;go_ret2;exact⟨by first |(rw[hEq.out];rfl) |(rw[V7.out];rfl),HF.out,H9⟩
   ·have hci:((lab x:Nat):Int)<((lab y:Nat):Int):=om;have hmin:min (lab y) (lab x)=lab x:=om;have M6:=M5.Dj y (lab x);have g1:(w5.setCell ⟨lb,y,none⟩ (.int .i64 (lab x:Nat))).cell? ⟨b,4,none⟩=some (.int .i64 (iV n lab:Nat)):=M6.st.c 4;have g2:=M6.st.frozen 4;have HF:=jh (Nw.out (((w5.setCell ⟨lb,y,none⟩ (.int .i64 (lab x:Nat))).setCell ⟨b,4,none⟩ (.int .i64 cn)).drew) y x hy hx XU.out XV.out (λe=>hxy e.symm) (.inr ⟨HLX.out.symm,HLY.out.symm⟩) (by rw[hmin];exact(M6.AR cn).drew));have H9:=((BS.setCell (p:=⟨lb,y,none⟩) M5.lo.2.2.1 (.int .i64 (lab x:Nat))).setCell (p:=⟨b,4,none⟩) M6.lo.1 (.int .i64 cn)).drew;clear M5 M6 BS
    go_still_tail 20,(by kernel_rfl)
    go_wp2;go_ret2;exact⟨by first |(rw[hEq.out];rfl) |(rw[V7.out];rfl),HF.out,H9⟩
  ·have k1:decide (((sz x:Nat):Int)<((sz y:Nat):Int))=false:=dF om
   go_quiet (fail)
   clear s1 s2 s3 k1 hlt;have M3:=kG.out.drewN nq;have Ni:Inner base w (w2.drewN nq):=nu.drewN nq;generalize w2.drewN nq=w3 at*;have d1:w3.cell? ⟨b,1,none⟩=some (.slice (some ⟨ub,0,none⟩) n n):=M3.st.c 1;have d2:w3.cell? ⟨ub,y,none⟩=some (.int .i64 (Kv y:Nat)):=M3.rup.cell hy;have d3:=M3.rup.frozen y;have M4:=M3.rG y x;have EP:=Ni.setCell (p:=⟨ub,y,none⟩) M3.lo.2.1 (.int .i64 x);clear M3 Ni kG;go_wp2_with fail;generalize w3.setCell ⟨ub,y,none⟩ (.int .i64 x)=w4 at*;clear d1 d2 d3;have e1:w4.cell? ⟨b,3,none⟩=some (.slice (some ⟨sb,0,none⟩) n n):=M4.st.c 3;have e2:w4.cell? ⟨sb,x,none⟩=some (.int .i64 (sz x:Nat)):=M4.yD.cell hx;have e3:w4.cell? ⟨sb,y,none⟩=some (.int .i64 (sz y:Nat)):=M4.yD.cell hy;have e4:=M4.yD.frozen x;have hws:IntKind.i64.wrap (((sz x:Nat):Int)+((sz y:Nat):Int))=((sz x:Nat):Int)+((sz y:Nat):Int):=IntWalk.i64_in _ om
   have M5:nL (w4.setCell ⟨sb,x,none⟩ (.int .i64 (((sz x:Nat):Int)+((sz y:Nat):Int)))).drew base b ub lb sb n (λk=>if k=y then x else Kv k) ls (λk=>if k=x then sz x+sz y else sz k) (iV n lab):=by rw[←Int.natCast_add];exact(M4.Pm x (sz x+sz y)).drew
   have BS:=(EP.setCell (p:=⟨sb,x,none⟩) M4.lo.2.2.2 (.int .i64 (((sz x:Nat):Int)+((sz y:Nat):Int)))).drew;clear M4 EP
   go_still_tail 15,(by kernel_rfl)
   go_wp2_with fail;generalize (w4.setCell ⟨sb,x,none⟩ (.int .i64 (((sz x:Nat):Int)+((sz y:Nat):Int)))).drew=w5 at*;clear e1 e2 e3 e4 hws;have f1:w5.cell? ⟨b,2,none⟩=some (.slice (some ⟨lb,0,none⟩) n n):=M5.st.c 2
   have f2:w5.cell? ⟨lb,x,none⟩=some (.int .i64 (lab x:Nat)):=by rw[←(HL2.out x hx XV.out).1];exact M5.rls.cell hx
   have f3:w5.cell? ⟨lb,y,none⟩=some (.int .i64 (lab y:Nat)):=by rw[←(HL2.out y hy XU.out).1];exact M5.rls.cell hy
   have f4:=M5.rls.frozen x
   rcases Nat.lt_or_gt_of_ne (show lab x≠lab y from Uh.out) with hc1 |hc1
   ·have hci:((lab x:Nat):Int)<((lab y:Nat):Int):=om;have hmin:min (lab x) (lab y)=lab x:=om;have M6:=M5.Dj x (lab x);have g1:(w5.setCell ⟨lb,x,none⟩ (.int .i64 (lab x:Nat))).cell? ⟨b,4,none⟩=some (.int .i64 (iV n lab:Nat)):=M6.st.c 4;have g2:=M6.st.frozen 4;have HF:=jh (Nw.out (((w5.setCell ⟨lb,x,none⟩ (.int .i64 (lab x:Nat))).setCell ⟨b,4,none⟩ (.int .i64 cn)).drew) x y hx hy XV.out XU.out hxy (.inl ⟨HLX.out.symm,HLY.out.symm⟩) (by rw[hmin];exact(M6.AR cn).drew));have H9:=((BS.setCell (p:=⟨lb,x,none⟩) M5.lo.2.2.1 (.int .i64 (lab x:Nat))).setCell (p:=⟨b,4,none⟩) M6.lo.1 (.int .i64 cn)).drew;clear M5 M6 BS
    go_still_tail 20,(by kernel_rfl)
    go_wp2;go_ret2;exact⟨by first |(rw[hEq.out];rfl) |(rw[V7.out];rfl),HF.out,H9⟩
   ·have hci:((lab y:Nat):Int)<((lab x:Nat):Int):=om;have hmin:min (lab x) (lab y)=lab y:=om;have M6:=M5.Dj x (lab y);have g1:(w5.setCell ⟨lb,x,none⟩ (.int .i64 (lab y:Nat))).cell? ⟨b,4,none⟩=some (.int .i64 (iV n lab:Nat)):=M6.st.c 4;have g2:=M6.st.frozen 4;have HF:=jh (Nw.out (((w5.setCell ⟨lb,x,none⟩ (.int .i64 (lab y:Nat))).setCell ⟨b,4,none⟩ (.int .i64 cn)).drew) x y hx hy XV.out XU.out hxy (.inl ⟨HLX.out.symm,HLY.out.symm⟩) (by rw[hmin];exact(M6.AR cn).drew));have H9:=((BS.setCell (p:=⟨lb,x,none⟩) M5.lo.2.2.1 (.int .i64 (lab y:Nat))).setCell (p:=⟨b,4,none⟩) M6.lo.1 (.int .i64 cn)).drew;clear M5 M6 BS
    go_still_tail 20,(by kernel_rfl)
    go_wp2;go_ret2;exact⟨by first |(rw[hEq.out];rfl) |(rw[V7.out];rfl),HF.out,H9⟩
end Go.Proofs.YtpaeogglppampaaGreatDoor
