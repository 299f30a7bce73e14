/- Lemmas of the proof. Conditions: as each one states. -/
import Derived.Test.YtpaeogglppampaaGreatQo
import Derived.Test.YtpaeogglppampaaGreatQp
set_option maxRecDepth 100000
set_option maxHeartbeats 16000000
namespace Go.Proofs.YtpaeogglppampaaGreat
open Go.RowKit
section
variable {w:World} {b g n cap i k:Nat} {σ:Sg} {li tt:Nat→Int} {ed:Int}
def sdI (s:Bool):Int:=if s then 1 else 0
def jH (σ:Sg) (i:Nat):Int:=match side σ i with |some s=>sdI s |none=>0
theorem aK (h:bU w b g n cap σ li tt ed) (hi:i≤n) (hu:(σ i).up≤n):
  Calls Tryz.prog 208 #[.pointer (some ⟨b,0,none⟩),.int .i64 (i:Nat)] w λe w'=>e=.returned (.tuple #[.int .i64 (jH σ i),.bool (side σ i).isSome])∧∃q,w'=w.drewN q:=by
 obtain⟨N,hN⟩:=nE (n+1);have c1:=h.c1;rw[hN] at c1;have bi:(0:Int)≤i∧(i:Int)<N:=om;have k2:=h.nr.c2 hi;obtain⟨p,hp⟩:=nE ((σ i).up);rw[hp] at k2 hu
 by_cases p0:p=0
 ·have d0:(((p:Nat):Int)==0)=true:=by simp[p0]
  have d0':(p==0)=true:=by simp[p0]
  have HS:=jh (PL (hp.trans p0));clear h hi hu hN hp p0;go_in;go_wp2;go_ret2;exact⟨by unfold jH;rw[HS.out];rfl,0,rfl⟩
 ·have d0:(((p:Nat):Int)==0)=false:=by simp;omega
  have d0':(p==0)=false:=by simp[p0]
  have bp:(0:Int)≤p∧(p:Int)<N:=om;have kp0:=h.nr.c0 hu;have kp1:=h.nr.c1 hu;obtain⟨q0,e0⟩:=nE ((σ p).k0);obtain⟨q1,e1⟩:=nE ((σ p).k1);rw[e0] at kp0;rw[e1] at kp1
  have i0:∀w,(Instr.index 223 (.agg #[.int .i64 q0,.int .i64 q1]) (.int .i64 0)).run Tryz.prog w=.ok (.int .i64 q0) w:=λ_=>by kernel_rfl
  have i1:∀w,(Instr.index 223 (.agg #[.int .i64 q0,.int .i64 q1]) (.int .i64 1)).run Tryz.prog w=.ok (.int .i64 q1) w:=λ_=>by kernel_rfl
  by_cases h0:q0=i
  ·have d1:(((q0:Nat):Int)==(i:Int))=true:=by simp[h0]
   have d1':(q0==i)=true:=by simp[h0]
   have HS:=jh (PK (σ:=σ) (i:=i) (by rw[hp];exact p0) (by rw[hp,e0,h0]));clear h hi hu hN hp p0 e0 e1 h0;go_in;go_wp2_with fail;refine wp_loop_rounds 2 ?_;rw[rounds_succ];go_wp2;go_ret2;exact⟨by unfold jH;rw[HS.out];rfl,0,rfl⟩
  ·have d1:(((q0:Nat):Int)==(i:Int))=false:=by simp;omega
   have d1':(q0==i)=false:=by simp[h0]
   by_cases h1:q1=i
   ·have d2:(((q1:Nat):Int)==(i:Int))=true:=by simp[h1]
    have d2':(q1==i)=true:=by simp[h1]
    have HS:=jh (PG (σ:=σ) (i:=i) (by rw[hp];exact p0) (by rw[hp,e0];exact h0) (by rw[hp,e1,h1]));clear h hi hu hN hp p0 e0 e1 h0 h1;go_in;go_wp2_with fail;refine wp_loop_rounds 2 ?_;rw[rounds_succ];go_wp2;rw[rounds_succ];go_wp2;go_ret2;exact⟨by unfold jH;rw[HS.out];rfl,0,rfl⟩
   ·have d2:(((q1:Nat):Int)==(i:Int))=false:=by simp;omega
    have d2':(q1==i)=false:=by simp[h1]
    have HS:=jh (PI (σ:=σ) (i:=i) (by rw[hp,e0];exact h0) (by rw[hp,e1];exact h1));clear h hi hu hN hp p0 e0 e1 h0 h1;go_in;go_wp2_with fail;refine wp_loop_rounds 3 ?_;rw[rounds_succ];go_wp2;rw[rounds_succ];go_wp2;rw[rounds_succ];go_wp2;go_ret2;exact⟨by unfold jH;rw[HS.out];rfl,0,rfl⟩
theorem dZ (s:Bool) (h:bU w b g n cap σ li tt ed) (hi:i≤n) (hk:k≤n):
  Calls Tryz.prog 230 #[.pointer (some ⟨b,0,none⟩),.int .i64 (i:Nat),.int .i64 (sdI s),.int .i64 (k:Nat)] w λe w'=>e=.returned (.tuple #[])∧bU w' b g n cap (aL σ i s k) li tt ed∧Off [g] w w':=by
 obtain⟨N,hN⟩:=nE (n+1);have c1:=h.c1;rw[hN] at c1;have bi:(0:Int)≤i∧(i:Int)<N:=om;have bk:(0:Int)≤k∧(k:Int)<N:=om;cases s
 ·have hs:sdI false=0:=rfl;rw[hs];have k0:=h.nr.c0 hi;have f0:=h.nr.fz (i*9);have kk:=h.nr.c2 hk;have fk:=h.nr.fz (k*9+2);have hE:=h.nr.s0 i k;have hO:Off [g] w (w.setCell ⟨g,i*9,none⟩ (.int .i64 k)):=(Off.refl [g] w).setCell sj _
  by_cases k0:k=0
  ·have d0:(((k:Nat):Int) !=0)=false:=by simp[k0]
   have d0':(k !=0)=false:=by simp[k0]
   have HL:Hid (bU (w.setCell ⟨g,i*9,none⟩ (.int .i64 k)) b g n cap (aL σ i false k) li tt ed):=jh (by
    unfold aL;rw[if_pos k0];exact h.nodes hO hE)
   have HO:=jh hO;clear h hi hk hN hs hE hO k0;go_in;go_wp2;go_end0;exact⟨rfl,HL.out,HO.out⟩
  ·have d0:(((k:Nat):Int) !=0)=true:=by simp;omega
   have d0':(k !=0)=true:=by simp[k0]
   have hE2:=hE.s2 k i;have c1':=(h.nodes hO hE).c1;rw[hN] at c1';have kk':=hE.c2 hk;have fk':=hE.fz (k*9+2);have hO2:=hO.setCell (p:=⟨g,k*9+2,none⟩) sj (.int .i64 i)
   have HL:Hid (bU ((w.setCell ⟨g,i*9,none⟩ (.int .i64 k)).setCell ⟨g,k*9+2,none⟩ (.int .i64 i)) b g n cap (aL σ i false k) li tt ed):=jh (by
    unfold aL;rw[if_neg k0];exact h.nodes hO2 hE2)
   have HO:=jh hO2;clear h hi hk hN hs hE hO hE2 hO2 k0;go_in;go_wp2;go_end0;exact⟨rfl,HL.out,HO.out⟩
 ·have hs:sdI true=1:=rfl;rw[hs];have k0:=h.nr.c1 hi;have f0:=h.nr.fz (i*9+1);have kk:=h.nr.c2 hk;have fk:=h.nr.fz (k*9+2);have hE:=h.nr.s1 i k;have hO:Off [g] w (w.setCell ⟨g,i*9+1,none⟩ (.int .i64 k)):=(Off.refl [g] w).setCell sj _
  by_cases k0:k=0
  ·have d0:(((k:Nat):Int) !=0)=false:=by simp[k0]
   have d0':(k !=0)=false:=by simp[k0]
   have HL:Hid (bU (w.setCell ⟨g,i*9+1,none⟩ (.int .i64 k)) b g n cap (aL σ i true k) li tt ed):=jh (by
    unfold aL;rw[if_pos k0];exact h.nodes hO hE)
   have HO:=jh hO;clear h hi hk hN hs hE hO k0;go_in;go_wp2;go_end0;exact⟨rfl,HL.out,HO.out⟩
  ·have d0:(((k:Nat):Int) !=0)=true:=by simp;omega
   have d0':(k !=0)=true:=by simp[k0]
   have hE2:=hE.s2 k i;have c1':=(h.nodes hO hE).c1;rw[hN] at c1';have kk':=hE.c2 hk;have fk':=hE.fz (k*9+2);have hO2:=hO.setCell (p:=⟨g,k*9+2,none⟩) sj (.int .i64 i)
   have HL:Hid (bU ((w.setCell ⟨g,i*9+1,none⟩ (.int .i64 k)).setCell ⟨g,k*9+2,none⟩ (.int .i64 i)) b g n cap (aL σ i true k) li tt ed):=jh (by
    unfold aL;rw[if_neg k0];exact h.nodes hO2 hE2)
   have HO:=jh hO2;clear h hi hk hN hs hE hO hE2 hO2 k0;go_in;go_wp2;go_end0;exact⟨rfl,HL.out,HO.out⟩
def wK (σ:Sg) (k:Nat):Sg:=if k=0 then σ else σ.put k { σ k with fl:=!(σ k).fl }
def jg (σ:Sg) (a b:Nat):Nat→Sg
 |0=>σ
 |1=>wK σ a
 |_=>wK (wK σ a) b
theorem Dv {n i q0 q1:Nat} {σ:Sg} (P:Cy n σ i) (e0:(σ i).k0=q0) (e1:(σ i).k1=q1) (hf:(σ i).fl=true):
  wK (wK (σ.put i { k0:=q1,k1:=q0,up:=(σ i).up,fl:=false,key:=(σ i).key,sz:=(σ i).sz,fi:=(σ i).fi }) q1) q0=dJ σ i:=by
 have n0:=P.n0;have n1:=P.n1;have ne:=P.ne;rw[e0] at n0 ne;rw[e1] at n1 ne
 funext j
 unfold dJ;rw[if_pos hf,e0,e1];simp only
 by_cases hj:j=i
 ·subst hj;have m0:j≠q0:=λe=>n0 e.symm;have m1:j≠q1:=λe=>n1 e.symm;rw[if_pos rfl];unfold wK
  (repeat' split)<;>simp[Sg.put,m0,m1]
 ·rw[if_neg hj];unfold wK
  by_cases h1:q1=0
  ·by_cases h2:q0=0
   ·simp[h1,h2,Sg.put,hj]
   ·by_cases h3:j=q0
    ·subst h3;simp[h1,h2,Sg.put,hj]
    ·simp[h1,h2,h3,Sg.put,hj]
  ·by_cases h2:q0=0
   ·by_cases h3:j=q1
    ·subst h3;simp[h1,h2,Sg.put,hj]
    ·simp[h1,h2,h3,Sg.put,hj]
   ·have h4:q0≠q1:=λe=>h2 (ne e)
    by_cases h3:j=q0
    ·subst h3;simp[h1,h2,Sg.put,hj,h4]
    ·by_cases h5:j=q1
     ·subst h5;simp[h1,h2,h3,Sg.put,hj]
     ·simp[h1,h2,h3,h5,Sg.put,hj]
theorem MB (h:bU w b g n cap σ li tt ed) (P:Cy n σ i):
  Calls Tryz.prog 210 #[.pointer (some ⟨b,0,none⟩),.int .i64 (i:Nat)] w λe w'=>e=.returned (.tuple #[])∧bU w' b g n cap (dJ σ i) li tt ed∧Off [g] w w':=by
 obtain⟨N,hN⟩:=nE (n+1);have c1:=h.c1;rw[hN] at c1;have hi:=P.le;have bi:(0:Int)≤i∧(i:Int)<N:=om;have k3:=h.nr.c3 hi;have f3:=h.nr.fz (i*9+3)
 by_cases hf:(σ i).fl=true
 ·rw[hf] at k3;obtain⟨q0,e0⟩:=nE ((σ i).k0);obtain⟨q1,e1⟩:=nE ((σ i).k1);have k0:=h.nr.c0 hi;have k1:=h.nr.c1 hi;rw[e0] at k0;rw[e1] at k1;have f0:=h.nr.fz (i*9);have f1:=h.nr.fz (i*9+1);go_in;go_wp2_with fail;have HS:(λ_:World=>True) w:=trivial;refine aj (λ_=>True) (by kernel_rfl) ?_;refine tC 0 ?_;refine tC 1 ?_;refine tC 2 ?_;refine tC 3 ?_;refine tC 4 ?_;refine tC 5 ?_;refine tC 7 ?_;refine tC 8 ?_;refine tC 9 ?_;refine tC 10 ?_;refine tC 12 ?_;refine tC 13 ?_;refine tC 16 ?_;refine tC 17 ?_
  try simp only[sD]
  refine Oh [6,11] ?_;have HL:=jh h;have HP:=jh P;have HE:=jh (And.intro e0 (And.intro e1 hf))
  have W0:(w.setCell ⟨g,i*9+3,none⟩ (.bool false)).drew.cell? ⟨g,i*9,none⟩=some (.int .i64 q0):=by
   have:=(h.nr.s3 i false).c0 hi;rw[Sg.put_eq] at this;rw[←e0];exact this
  have W1:(w.setCell ⟨g,i*9+3,none⟩ (.bool false)).drew.cell? ⟨g,i*9+1,none⟩=some (.int .i64 q1):=by
   have:=(h.nr.s3 i false).c1 hi;rw[Sg.put_eq] at this;rw[←e1];exact this
  have F0:=(h.nr.s3 i false).fz (i*9);have F1:=(h.nr.s3 i false).fz (i*9+1);have HNA:Hid (gD (w.setCell ⟨g,i*9+3,none⟩ (.bool false)).drew g n (σ.put i { σ i with fl:=false }) li tt):=jh (h.nr.s3 i false);have HO:Hid (Off [g] w (w.setCell ⟨g,i*9+3,none⟩ (.bool false)).drew):=jh ((Off.refl [g] w).setCell sj _).drew;obtain⟨W,hW⟩:=nE ((w.setCell ⟨g,i*9+3,none⟩ (.bool false)).drew)
  have F0:W.frozen? ⟨g,i*9,none⟩=false:=by rw[←hW];exact F0
  have F1:W.frozen? ⟨g,i*9+1,none⟩=false:=by rw[←hW];exact F1
  rw[hW] at W0 W1 HNA HO⊢;have HN:=jh hN;clear h P e0 e1 hf hN hi hW k0 k1 f0 f1 k3 f3 HS;have HS:(λ_:World=>True) W:=trivial;have Oc:Hid (∀K:Act→World→Prop,True):=jh λ_=>trivial;clear Oc;refine AllReadyH.cons rfl (λK hK=>?_) (AllReadyH.cons rfl (λK hK=>?_) AllReadyH.nil)
  ·go_simp;refine hK.out _ _ trivial (λ_=>?_);clear hK;refine rC 11 λK hK=>?_;go_simp;refine hK.out _ _ trivial (λ_=>?_);clear hK;refine tC 14 ?_
   try simp only[sD]
   refine rC 15 λK hK=>?_;go_simp;refine hK.out _ _ trivial (λ_=>?_);clear hK;have HS:(λ_:World=>True) (W.setCell ⟨g,i*9,none⟩ (.int .i64 q1)):=trivial;refine tC 18 ?_
   try simp only[sD]
   refine rC 19 λK hK=>?_;go_simp;refine hK.out _ _ trivial (λ_=>?_);clear hK;refine dD ⟨rfl,?_⟩;have I9:=(HNA.out.s0 i q1).s1 i q0;rw[Sg.put_eq,Sg.jJ,Sg.put_eq,Sg.jJ] at I9;have fu:=jh ((HO.out.setCell (p:=⟨g,i*9,none⟩) sj (.int .i64 q1)).setCell (p:=⟨g,i*9+1,none⟩) sj (.int .i64 q0));have HL2:=jh (HL.out.nodes fu.out I9);obtain⟨W5,kW⟩:=nE ((W.setCell ⟨g,i*9,none⟩ (.int .i64 q1)).setCell ⟨g,i*9+1,none⟩ (.int .i64 q0));rw[kW] at HL2 fu⊢;clear kW I9 HNA HO HL HS F0 F1 W0 W1 c1;have v0:=HL2.out.nr.c0 HP.out.le;have v1:=HL2.out.nr.c1 HP.out.le;rw[Sg.put_eq] at v0 v1
   have i0:∀w,(Instr.index 223 (.agg #[.int .i64 q1,.int .i64 q0]) (.int .i64 0)).run Tryz.prog w=.ok (.int .i64 q1) w:=λ_=>by kernel_rfl
   have i1:∀w,(Instr.index 223 (.agg #[.int .i64 q1,.int .i64 q0]) (.int .i64 1)).run Tryz.prog w=.ok (.int .i64 q0) w:=λ_=>by kernel_rfl
   have hT:Hid (wK (wK (σ.put i { k0:=q1,k1:=q0,up:=(σ i).up,fl:=false,key:=(σ i).key,sz:=(σ i).sz,fi:=(σ i).fi }) q1) q0=dJ σ i):=jh (Dv HP.out HE.out.1 HE.out.2.1 HE.out.2.2);have hq:Hid (q0≤n∧q1≤n):=jh ⟨by rw[←HE.out.1];exact HP.out.l0,by rw[←HE.out.2.1];exact HP.out.l1⟩;obtain⟨σ1,yX⟩:∃x:Sg,σ.put i { k0:=q1,k1:=q0,up:=(σ i).up,fl:=false,key:=(σ i).key,sz:=(σ i).sz,fi:=(σ i).fi }=x:=⟨_,rfl⟩;rw[yX] at HL2 hT;clear yX HS;go_wp2_with fail;clear v0 v1
   go_loopw [43] (λiv wr=>∃r:Nat,r≤2∧iv=.int .i64 r∧Hid (bU wr b g n cap (jg σ1 q1 q0 r) li tt ed)∧Hid (Off [g] w wr)) (λiv _=>2-(intOf iv).toNat)
   case atStart=>exact⟨0,om,rfl,HL2,fu⟩
   case round=>
    clear HL2 fu;obtain⟨r,hr,rfl,HL,HO⟩:=hrel;have hr3:r=0∨r=1∨r=2:=om
    rcases hr3 with rfl |rfl |rfl
    ·by_cases h0:q1=0
     ·have d0:(((q1:Nat):Int) !=0)=false:=by simp[h0]
      have d0':(q1 !=0)=false:=by simp[h0]
      have HF:Hid (bU wr b g n cap (jg σ1 q1 q0 1) li tt ed):=jh (by
       have e:jg σ1 q1 q0 1=jg σ1 q1 q0 0:=by simp[jg,wK,h0]
       rw[e];exact HL.out)
      clear h0 HL;go_wp2;go_roundw
      case rel=>exact⟨1,om,rfl,HF,HO⟩
      case measure=>simp only[intOf];omega
     ·have d0:(((q1:Nat):Int) !=0)=true:=by simp;omega
      have d0':(q1 !=0)=true:=by simp[h0]
      have bq:(0:Int)≤q1∧(q1:Int)<N:=oD HN.out hq.out.2;have c1:=HL.out.c1;rw[HN.out] at c1;have v3:=HL.out.nr.c3 hq.out.2;have f3:=HL.out.nr.fz (q1*9+3)
      have HF:Hid (bU (wr.setCell ⟨g,q1*9+3,none⟩ (.bool (!(jg σ1 q1 q0 0 q1).fl))) b g n cap (jg σ1 q1 q0 1) li tt ed):=jh (by
       have e:jg σ1 q1 q0 1=(jg σ1 q1 q0 0).put q1 { (jg σ1 q1 q0 0) q1 with fl:=!((jg σ1 q1 q0 0) q1).fl }:=by
        show wK (jg σ1 q1 q0 0) q1=_;unfold wK;rw[if_neg h0]
       rw[e]
       exact HL.out.nodes ((Off.refl [g] wr).setCell sj _) (HL.out.nr.s3 q1 _))
      have bW:=jh (HO.out.setCell (p:=⟨g,q1*9+3,none⟩) sj (.bool (!(jg σ1 q1 q0 0 q1).fl)));generalize (jg σ1 q1 q0 0 q1).fl=fb at v3 HF bW;clear h0 HL HO;go_wp2
      go_still_tail 16,(by kernel_rfl)
      go_wp2;go_roundw
      case rel=>exact⟨1,om,by rfl,jh HF.out.dr,jh bW.out.drew⟩
      case measure=>simp only[intOf];omega
    ·by_cases h0:q0=0
     ·have d0:(((q0:Nat):Int) !=0)=false:=by simp[h0]
      have d0':(q0 !=0)=false:=by simp[h0]
      have HF:Hid (bU wr b g n cap (jg σ1 q1 q0 2) li tt ed):=jh (by
       have e:jg σ1 q1 q0 2=jg σ1 q1 q0 1:=by simp[jg,wK,h0]
       rw[e];exact HL.out)
      clear h0 HL;go_wp2;go_roundw
      case rel=>exact⟨2,om,rfl,HF,HO⟩
      case measure=>simp only[intOf];omega
     ·have d0:(((q0:Nat):Int) !=0)=true:=by simp;omega
      have d0':(q0 !=0)=true:=by simp[h0]
      have bq:(0:Int)≤q0∧(q0:Int)<N:=oD HN.out hq.out.1;have c1:=HL.out.c1;rw[HN.out] at c1;have v3:=HL.out.nr.c3 hq.out.1;have f3:=HL.out.nr.fz (q0*9+3)
      have HF:Hid (bU (wr.setCell ⟨g,q0*9+3,none⟩ (.bool (!(jg σ1 q1 q0 1 q0).fl))) b g n cap (jg σ1 q1 q0 2) li tt ed):=jh (by
       have e:jg σ1 q1 q0 2=(jg σ1 q1 q0 1).put q0 { (jg σ1 q1 q0 1) q0 with fl:=!((jg σ1 q1 q0 1) q0).fl }:=by
        show wK (jg σ1 q1 q0 1) q0=_;unfold wK;rw[if_neg h0]
       rw[e]
       exact HL.out.nodes ((Off.refl [g] wr).setCell sj _) (HL.out.nr.s3 q0 _))
      have bW:=jh (HO.out.setCell (p:=⟨g,q0*9+3,none⟩) sj (.bool (!(jg σ1 q1 q0 1 q0).fl)));generalize (jg σ1 q1 q0 1 q0).fl=fb at v3 HF bW;clear h0 HL HO;go_wp2
      go_still_tail 16,(by kernel_rfl)
      go_wp2;go_roundw
      case rel=>exact⟨2,om,by rfl,jh HF.out.dr,jh bW.out.drew⟩
      case measure=>simp only[intOf];omega
    ·have HF:Hid (bU wr b g n cap (dJ σ i) li tt ed):=jh (by rw[←hT.out];exact HL.out);clear HL;go_wp2;go_end0;exact⟨rfl,HF.out,HO.out⟩
  ·go_simp;refine hK.out _ _ trivial (λ_=>?_);clear hK;refine rC 6 λK hK=>?_;go_simp;refine hK.out _ _ trivial (λ_=>?_);clear hK;refine tC 14 ?_
   try simp only[sD]
   refine rC 15 λK hK=>?_;go_simp;refine hK.out _ _ trivial (λ_=>?_);clear hK;have HS:(λ_:World=>True) (W.setCell ⟨g,i*9,none⟩ (.int .i64 q1)):=trivial;refine tC 18 ?_
   try simp only[sD]
   refine rC 19 λK hK=>?_;go_simp;refine hK.out _ _ trivial (λ_=>?_);clear hK;refine dD ⟨rfl,?_⟩;have I9:=(HNA.out.s0 i q1).s1 i q0;rw[Sg.put_eq,Sg.jJ,Sg.put_eq,Sg.jJ] at I9;have fu:=jh ((HO.out.setCell (p:=⟨g,i*9,none⟩) sj (.int .i64 q1)).setCell (p:=⟨g,i*9+1,none⟩) sj (.int .i64 q0));have HL2:=jh (HL.out.nodes fu.out I9);obtain⟨W5,kW⟩:=nE ((W.setCell ⟨g,i*9,none⟩ (.int .i64 q1)).setCell ⟨g,i*9+1,none⟩ (.int .i64 q0));rw[kW] at HL2 fu⊢;clear kW I9 HNA HO HL HS F0 F1 W0 W1 c1;have v0:=HL2.out.nr.c0 HP.out.le;have v1:=HL2.out.nr.c1 HP.out.le;rw[Sg.put_eq] at v0 v1
   have i0:∀w,(Instr.index 223 (.agg #[.int .i64 q1,.int .i64 q0]) (.int .i64 0)).run Tryz.prog w=.ok (.int .i64 q1) w:=λ_=>by kernel_rfl
   have i1:∀w,(Instr.index 223 (.agg #[.int .i64 q1,.int .i64 q0]) (.int .i64 1)).run Tryz.prog w=.ok (.int .i64 q0) w:=λ_=>by kernel_rfl
   have hT:Hid (wK (wK (σ.put i { k0:=q1,k1:=q0,up:=(σ i).up,fl:=false,key:=(σ i).key,sz:=(σ i).sz,fi:=(σ i).fi }) q1) q0=dJ σ i):=jh (Dv HP.out HE.out.1 HE.out.2.1 HE.out.2.2);have hq:Hid (q0≤n∧q1≤n):=jh ⟨by rw[←HE.out.1];exact HP.out.l0,by rw[←HE.out.2.1];exact HP.out.l1⟩;obtain⟨σ1,yX⟩:∃x:Sg,σ.put i { k0:=q1,k1:=q0,up:=(σ i).up,fl:=false,key:=(σ i).key,sz:=(σ i).sz,fi:=(σ i).fi }=x:=⟨_,rfl⟩;rw[yX] at HL2 hT;clear yX HS;go_wp2_with fail;clear v0 v1
   go_loopw [43] (λiv wr=>∃r:Nat,r≤2∧iv=.int .i64 r∧Hid (bU wr b g n cap (jg σ1 q1 q0 r) li tt ed)∧Hid (Off [g] w wr)) (λiv _=>2-(intOf iv).toNat)
   case atStart=>exact⟨0,om,rfl,HL2,fu⟩
   case round=>
    clear HL2 fu;obtain⟨r,hr,rfl,HL,HO⟩:=hrel;have hr3:r=0∨r=1∨r=2:=om
    rcases hr3 with rfl |rfl |rfl
    ·by_cases h0:q1=0
     ·have d0:(((q1:Nat):Int) !=0)=false:=by simp[h0]
      have d0':(q1 !=0)=false:=by simp[h0]
      have HF:Hid (bU wr b g n cap (jg σ1 q1 q0 1) li tt ed):=jh (by
       have e:jg σ1 q1 q0 1=jg σ1 q1 q0 0:=by simp[jg,wK,h0]
       rw[e];exact HL.out)
      clear h0 HL;go_wp2;go_roundw
      case rel=>exact⟨1,om,rfl,HF,HO⟩
      case measure=>simp only[intOf];omega
     ·have d0:(((q1:Nat):Int) !=0)=true:=by simp;omega
      have d0':(q1 !=0)=true:=by simp[h0]
      have bq:(0:Int)≤q1∧(q1:Int)<N:=oD HN.out hq.out.2;have c1:=HL.out.c1;rw[HN.out] at c1;have v3:=HL.out.nr.c3 hq.out.2;have f3:=HL.out.nr.fz (q1*9+3)
      have HF:Hid (bU (wr.setCell ⟨g,q1*9+3,none⟩ (.bool (!(jg σ1 q1 q0 0 q1).fl))) b g n cap (jg σ1 q1 q0 1) li tt ed):=jh (by
       have e:jg σ1 q1 q0 1=(jg σ1 q1 q0 0).put q1 { (jg σ1 q1 q0 0) q1 with fl:=!((jg σ1 q1 q0 0) q1).fl }:=by
        show wK (jg σ1 q1 q0 0) q1=_;unfold wK;rw[if_neg h0]
       rw[e]
       exact HL.out.nodes ((Off.refl [g] wr).setCell sj _) (HL.out.nr.s3 q1 _))
      have bW:=jh (HO.out.setCell (p:=⟨g,q1*9+3,none⟩) sj (.bool (!(jg σ1 q1 q0 0 q1).fl)));generalize (jg σ1 q1 q0 0 q1).fl=fb at v3 HF bW;clear h0 HL HO;go_wp2
      go_still_tail 16,(by kernel_rfl)
      go_wp2;go_roundw
      case rel=>exact⟨1,om,by rfl,jh HF.out.dr,jh bW.out.drew⟩
      case measure=>simp only[intOf];omega
    ·by_cases h0:q0=0
     ·have d0:(((q0:Nat):Int) !=0)=false:=by simp[h0]
      have d0':(q0 !=0)=false:=by simp[h0]
      have HF:Hid (bU wr b g n cap (jg σ1 q1 q0 2) li tt ed):=jh (by
       have e:jg σ1 q1 q0 2=jg σ1 q1 q0 1:=by simp[jg,wK,h0]
       rw[e];exact HL.out)
      clear h0 HL;go_wp2;go_roundw
      case rel=>exact⟨2,om,rfl,HF,HO⟩
      case measure=>simp only[intOf];omega
     ·have d0:(((q0:Nat):Int) !=0)=true:=by simp;omega
      have d0':(q0 !=0)=true:=by simp[h0]
      have bq:(0:Int)≤q0∧(q0:Int)<N:=oD HN.out hq.out.1;have c1:=HL.out.c1;rw[HN.out] at c1;have v3:=HL.out.nr.c3 hq.out.1;have f3:=HL.out.nr.fz (q0*9+3)
      have HF:Hid (bU (wr.setCell ⟨g,q0*9+3,none⟩ (.bool (!(jg σ1 q1 q0 1 q0).fl))) b g n cap (jg σ1 q1 q0 2) li tt ed):=jh (by
       have e:jg σ1 q1 q0 2=(jg σ1 q1 q0 1).put q0 { (jg σ1 q1 q0 1) q0 with fl:=!((jg σ1 q1 q0 1) q0).fl }:=by
        show wK (jg σ1 q1 q0 1) q0=_;unfold wK;rw[if_neg h0]
       rw[e]
       exact HL.out.nodes ((Off.refl [g] wr).setCell sj _) (HL.out.nr.s3 q0 _))
      have bW:=jh (HO.out.setCell (p:=⟨g,q0*9+3,none⟩) sj (.bool (!(jg σ1 q1 q0 1 q0).fl)));generalize (jg σ1 q1 q0 1 q0).fl=fb at v3 HF bW;clear h0 HL HO;go_wp2
      go_still_tail 16,(by kernel_rfl)
      go_wp2;go_roundw
      case rel=>exact⟨2,om,by rfl,jh HF.out.dr,jh bW.out.drew⟩
      case measure=>simp only[intOf];omega
    ·have HF:Hid (bU wr b g n cap (dJ σ i) li tt ed):=jh (by rw[←hT.out];exact HL.out);clear HL;go_wp2;go_end0;exact⟨rfl,HF.out,HO.out⟩
 ·rw[Bool.not_eq_true] at hf;rw[hf] at k3;have HL:=jh h;have HP:Hid (dJ σ i=σ):=jh (by unfold dJ;rw[if_neg (by rw[hf];exact Bool.false_ne_true)]);clear h P hN hi hf;go_in;go_wp2_with fail
  (try simp only[Exit.inBlock,Exit.then]);refine bodyPost_ret (results_none rfl _ _ _) rfl ?_
  exact⟨rfl,by rw[HP.out];exact HL.out,Off.refl _ _⟩
end
section
variable {w:World} {b g n cap i:Nat} {σ:Sg} {li tt:Nat→Int} {ed:Int}
theorem bY (s:Bool) (h:bU w b g n cap σ li tt ed) (R:nu n σ i s) (hn:n≤1000000):
  Calls Tryz.prog 211 #[.pointer (some ⟨b,0,none⟩),.int .i64 (i:Nat)] w λe w'=>e=.returned (.tuple #[])∧(∃jf,bU w' b g n cap (fC σ i s) li jf ed)∧Off [g] w w':=by
 obtain⟨N,hN⟩:=nE (n+1);have c1:=h.c1;rw[hN] at c1;have bi:(0:Int)≤i∧(i:Int)<N:=oC R.li;obtain⟨p,hp⟩:=nE ((σ i).up)
 have hpn:p≤n:=by rw[←hp];exact R.lp
 obtain⟨gg,hgg⟩:=nE ((σ p).up)
 have vM:gg≤n:=by rw[←hgg,←hp];exact R.lg
 have bp:(0:Int)≤p∧(p:Int)<N:=om;have k2:=h.nr.c2 R.li;have kp2:=h.nr.c2 hpn;rw[hp] at k2;rw[hgg] at kp2;cases s
 ·by_cases hx:(side σ (σ i).up).isSome=true
  ·obtain⟨ab,hab⟩:=Option.isSome_iff_exists.1 hx
   have Ij:jU σ i=aL σ gg ab i:=by unfold jU;rw[hab,hp,hgg]
   have SK:jT σ i false=aL (aL σ gg ab i) p false (((aL σ gg ab i) i).kd (!false)):=by unfold jT;rw[Ij,hp]
   have Nn:fJ σ i false=aL (jT σ i false) i (!false) p:=by unfold fJ;rw[hp]
   have SI:fC σ i false=dH (dH (fJ σ i false) p) i:=by unfold fC;rw[hp]
   have lk:=R.lk;rw[Ij] at lk;have Uj:=jh R.rp;have Uk:=jh R.ri;rw[hp] at Uj Uk;have vE:=jh (aK h R.li R.lp);rw[show jH σ i=0 by unfold jH;rw[R.sd];rfl,R.sd] at vE;have HS2:=jh (λq=>aK (i:=p) (h.dn q) hpn (by rw[hgg];exact vM));rw[hp] at hab;rw[hab] at HS2;rw[show jH σ p=sdI ab by unfold jH;rw[hab]] at HS2;have HL:=jh h;have Jc:=jh SK;have Jb:=jh Nn;have Ja:=jh SI;have HN:=jh hN;have HI:=jh (And.intro R.li (And.intro hpn (And.intro vM lk)));have HP:=jh hp;have HG:=jh hgg;have HM:=jh hn;clear h R Ij SK Nn SI hab hx lk hN hp hgg hpn vM hn;go_in;go_wp2_with fail;apply mO vE;clear vE;rintro e w1 ⟨rfl,qa,rfl⟩;go_wp2_with fail;refine(HS2.out qa).mono ?_;clear HS2;rintro e w2 ⟨rfl,qb,rfl⟩;have mR:=jh ((HL.out.dn qa).dn qb);have fO:Hid (Off [g] w ((w.drewN qa).drewN qb)):=jh (((Off.refl [g] w).drewN qa).drewN qb);obtain⟨w2,hw2⟩:=nG ((w.drewN qa).drewN qb);rw[←hw2] at mR fO⊢;clear hw2 HL c1 k2 kp2;go_wp2_with fail;refine(dZ ab mR.out HI.out.2.2.1 HI.out.1).mono ?_;rintro e w3 ⟨rfl,l3,o3⟩;have gL:=jh l3;have bW:=jh (fO.out.trans o3 (λj hj=>.inl hj));clear l3 o3 mR fO;have c1:=gL.out.c1;rw[HN.out] at c1;have kk:=gL.out.nr.c1 HI.out.1;obtain⟨kv,hkv⟩:=nE (((aL σ gg ab i) i).k1);rw[hkv] at kk
   have xR:kv≤n:=by rw[←hkv];exact HI.out.2.2.2
   have HKV:=jh hkv;have l4:=λW (H:bU W b g n cap (aL σ gg ab i) li tt ed)=>dZ false H HI.out.2.1 xR;have HH:=jh l4;clear l4 hkv xR;go_wp2_with fail;refine(HH.out _ gL.out).mono ?_;clear HH;rintro e w4 ⟨rfl,l4,o4⟩
   have e4:aL (aL σ gg ab i) p false kv=jT σ i false:=by rw[Jc.out,←HKV.out];rfl
   rw[e4] at l4;have oQ:=jh l4;have kH:=jh (bW.out.trans o4 (λj hj=>.inl hj));clear l4 o4 gL bW kk e4;go_wp2_with fail;refine(dZ (true) oQ.out HI.out.1 HI.out.2.1).mono ?_;rintro e w5 ⟨rfl,l5,o5⟩
   have e5:aL (jT σ i false) i true p=fJ σ i false:=by rw[Jb.out];rfl
   rw[e5] at l5;have vG:=jh l5;have mQ:=jh (kH.out.trans o5 (λj hj=>.inl hj));clear l5 o5 oQ kH e5;go_wp2_with fail;refine(aQ vG.out Uj.out HM.out).mono ?_;rintro e w6 ⟨rfl,⟨t6,l6⟩,o6⟩;have tT:=jh l6;have nO:=jh (mQ.out.trans o6 (λj hj=>.inl hj));clear l6 o6 vG mQ;go_wp2_with fail;refine(aQ tT.out Uk.out HM.out).mono ?_;rintro e w7 ⟨rfl,⟨t7,l7⟩,o7⟩;have U7:=jh l7;have Ou:=jh (nO.out.trans o7 (λj hj=>.inl hj));clear l7 o7 tT nO;go_wp2;go_end0;exact⟨rfl,⟨t7,by rw[Ja.out];exact U7.out⟩,Ou.out⟩
  ·have hab:side σ (σ i).up=none:=by cases e:side σ (σ i).up with |none=>rfl |some q=>rw[e] at hx;exact absurd rfl hx
   have Ij:jU σ i=σ.put i { σ i with up:=gg }:=by unfold jU;rw[hab,hp,hgg]
   have SK:jT σ i false=aL (σ.put i { σ i with up:=gg }) p false (((σ.put i { σ i with up:=gg }) i).kd (!false)):=by unfold jT;rw[Ij,hp]
   have Nn:fJ σ i false=aL (jT σ i false) i (!false) p:=by unfold fJ;rw[hp]
   have SI:fC σ i false=dH (dH (fJ σ i false) p) i:=by unfold fC;rw[hp]
   have lk:=R.lk;rw[Ij] at lk;have Uj:=jh R.rp;have Uk:=jh R.ri;rw[hp] at Uj Uk;have vE:=jh (aK h R.li R.lp);rw[show jH σ i=0 by unfold jH;rw[R.sd];rfl,R.sd] at vE;have HS2:=jh (λq=>aK (i:=p) (h.dn q) hpn (by rw[hgg];exact vM));rw[hp] at hab;rw[hab] at HS2;rw[show jH σ p=0 by unfold jH;rw[hab]] at HS2;have HL:=jh h;have Jc:=jh SK;have Jb:=jh Nn;have Ja:=jh SI;have HN:=jh hN;have HI:=jh (And.intro R.li (And.intro hpn (And.intro vM lk)));have HP:=jh hp;have HG:=jh hgg;have HM:=jh hn;clear h R Ij SK Nn SI hab hx lk hN hp hgg hpn vM hn;go_in;go_wp2_with fail;apply mO vE;clear vE;rintro e w1 ⟨rfl,qa,rfl⟩;go_wp2_with fail;refine(HS2.out qa).mono ?_;clear HS2;rintro e w2 ⟨rfl,qb,rfl⟩;have mR:=jh ((HL.out.dn qa).dn qb);have fO:Hid (Off [g] w ((w.drewN qa).drewN qb)):=jh (((Off.refl [g] w).drewN qa).drewN qb);obtain⟨w2,hw2⟩:=nG ((w.drewN qa).drewN qb);rw[←hw2] at mR fO⊢;clear hw2 HL c1 k2 kp2;have c1:=mR.out.c1;rw[HN.out] at c1;have f2:=mR.out.nr.fz (i*9+2);have k2:=mR.out.nr.c2 HI.out.1;rw[HP.out] at k2;have l3:bU (w2.setCell ⟨g,i*9+2,none⟩ (.int .i64 gg)) b g n cap (σ.put i { σ i with up:=gg }) li tt ed:=mR.out.nodes ((Off.refl [g] w2).setCell sj _) (mR.out.nr.s2 i gg);have gL:=jh l3;have bW:=jh (fO.out.setCell (p:=⟨g,i*9+2,none⟩) sj (.int .i64 gg));obtain⟨w3,hw3⟩:=nE (w2.setCell ⟨g,i*9+2,none⟩ (.int .i64 gg));rw[hw3] at gL bW;have HW3:=jh hw3;clear l3 mR fO hw3;have c1':=gL.out.c1;rw[HN.out] at c1';have kk:=gL.out.nr.c1 HI.out.1;obtain⟨kv,hkv⟩:∃q,((σ.put i { σ i with up:=gg }) i).k1=q:=⟨_,rfl⟩;rw[hkv] at kk
   have xR:kv≤n:=by rw[←hkv];exact HI.out.2.2.2
   have HKV:=jh hkv;have l4:=λW (H:bU W b g n cap (σ.put i { σ i with up:=gg }) li tt ed)=>dZ false H HI.out.2.1 xR;have HH:=jh l4;clear l4 hkv xR;rw[←HW3.out] at kk c1' gL bW;clear HW3;go_wp2_with fail;refine(HH.out _ gL.out).mono ?_;clear HH;rintro e w4 ⟨rfl,l4,o4⟩
   have e4:aL (σ.put i { σ i with up:=gg }) p false kv=jT σ i false:=by rw[Jc.out,←HKV.out];rfl
   rw[e4] at l4;have oQ:=jh l4;have kH:=jh (bW.out.trans o4 (λj hj=>.inl hj));clear l4 o4 gL bW kk e4;go_wp2_with fail;refine(dZ (true) oQ.out HI.out.1 HI.out.2.1).mono ?_;rintro e w5 ⟨rfl,l5,o5⟩
   have e5:aL (jT σ i false) i true p=fJ σ i false:=by rw[Jb.out];rfl
   rw[e5] at l5;have vG:=jh l5;have mQ:=jh (kH.out.trans o5 (λj hj=>.inl hj));clear l5 o5 oQ kH e5;go_wp2_with fail;refine(aQ vG.out Uj.out HM.out).mono ?_;rintro e w6 ⟨rfl,⟨t6,l6⟩,o6⟩;have tT:=jh l6;have nO:=jh (mQ.out.trans o6 (λj hj=>.inl hj));clear l6 o6 vG mQ;go_wp2_with fail;refine(aQ tT.out Uk.out HM.out).mono ?_;rintro e w7 ⟨rfl,⟨t7,l7⟩,o7⟩;have U7:=jh l7;have Ou:=jh (nO.out.trans o7 (λj hj=>.inl hj));clear l7 o7 tT nO;go_wp2;go_end0;exact⟨rfl,⟨t7,by rw[Ja.out];exact U7.out⟩,Ou.out⟩
 ·by_cases hx:(side σ (σ i).up).isSome=true
  ·obtain⟨ab,hab⟩:=Option.isSome_iff_exists.1 hx
   have Ij:jU σ i=aL σ gg ab i:=by unfold jU;rw[hab,hp,hgg]
   have SK:jT σ i true=aL (aL σ gg ab i) p true (((aL σ gg ab i) i).kd (!true)):=by unfold jT;rw[Ij,hp]
   have Nn:fJ σ i true=aL (jT σ i true) i (!true) p:=by unfold fJ;rw[hp]
   have SI:fC σ i true=dH (dH (fJ σ i true) p) i:=by unfold fC;rw[hp]
   have lk:=R.lk;rw[Ij] at lk;have Uj:=jh R.rp;have Uk:=jh R.ri;rw[hp] at Uj Uk;have vE:=jh (aK h R.li R.lp);rw[show jH σ i=1 by unfold jH;rw[R.sd];rfl,R.sd] at vE;have HS2:=jh (λq=>aK (i:=p) (h.dn q) hpn (by rw[hgg];exact vM));rw[hp] at hab;rw[hab] at HS2;rw[show jH σ p=sdI ab by unfold jH;rw[hab]] at HS2;have HL:=jh h;have Jc:=jh SK;have Jb:=jh Nn;have Ja:=jh SI;have HN:=jh hN;have HI:=jh (And.intro R.li (And.intro hpn (And.intro vM lk)));have HP:=jh hp;have HG:=jh hgg;have HM:=jh hn;clear h R Ij SK Nn SI hab hx lk hN hp hgg hpn vM hn;go_in;go_wp2_with fail;apply mO vE;clear vE;rintro e w1 ⟨rfl,qa,rfl⟩;go_wp2_with fail;refine(HS2.out qa).mono ?_;clear HS2;rintro e w2 ⟨rfl,qb,rfl⟩;have mR:=jh ((HL.out.dn qa).dn qb);have fO:Hid (Off [g] w ((w.drewN qa).drewN qb)):=jh (((Off.refl [g] w).drewN qa).drewN qb);obtain⟨w2,hw2⟩:=nG ((w.drewN qa).drewN qb);rw[←hw2] at mR fO⊢;clear hw2 HL c1 k2 kp2;go_wp2_with fail;refine(dZ ab mR.out HI.out.2.2.1 HI.out.1).mono ?_;rintro e w3 ⟨rfl,l3,o3⟩;have gL:=jh l3;have bW:=jh (fO.out.trans o3 (λj hj=>.inl hj));clear l3 o3 mR fO;have c1:=gL.out.c1;rw[HN.out] at c1;have kk:=gL.out.nr.c0 HI.out.1;obtain⟨kv,hkv⟩:=nE (((aL σ gg ab i) i).k0);rw[hkv] at kk
   have xR:kv≤n:=by rw[←hkv];exact HI.out.2.2.2
   have HKV:=jh hkv;have l4:=λW (H:bU W b g n cap (aL σ gg ab i) li tt ed)=>dZ true H HI.out.2.1 xR;have HH:=jh l4;clear l4 hkv xR;go_wp2_with fail;refine(HH.out _ gL.out).mono ?_;clear HH;rintro e w4 ⟨rfl,l4,o4⟩
   have e4:aL (aL σ gg ab i) p true kv=jT σ i true:=by rw[Jc.out,←HKV.out];rfl
   rw[e4] at l4;have oQ:=jh l4;have kH:=jh (bW.out.trans o4 (λj hj=>.inl hj));clear l4 o4 gL bW kk e4;go_wp2_with fail;refine(dZ (false) oQ.out HI.out.1 HI.out.2.1).mono ?_;rintro e w5 ⟨rfl,l5,o5⟩
   have e5:aL (jT σ i true) i false p=fJ σ i true:=by rw[Jb.out];rfl
   rw[e5] at l5;have vG:=jh l5;have mQ:=jh (kH.out.trans o5 (λj hj=>.inl hj));clear l5 o5 oQ kH e5;go_wp2_with fail;refine(aQ vG.out Uj.out HM.out).mono ?_;rintro e w6 ⟨rfl,⟨t6,l6⟩,o6⟩;have tT:=jh l6;have nO:=jh (mQ.out.trans o6 (λj hj=>.inl hj));clear l6 o6 vG mQ;go_wp2_with fail;refine(aQ tT.out Uk.out HM.out).mono ?_;rintro e w7 ⟨rfl,⟨t7,l7⟩,o7⟩;have U7:=jh l7;have Ou:=jh (nO.out.trans o7 (λj hj=>.inl hj));clear l7 o7 tT nO;go_wp2;go_end0;exact⟨rfl,⟨t7,by rw[Ja.out];exact U7.out⟩,Ou.out⟩
  ·have hab:side σ (σ i).up=none:=by cases e:side σ (σ i).up with |none=>rfl |some q=>rw[e] at hx;exact absurd rfl hx
   have Ij:jU σ i=σ.put i { σ i with up:=gg }:=by unfold jU;rw[hab,hp,hgg]
   have SK:jT σ i true=aL (σ.put i { σ i with up:=gg }) p true (((σ.put i { σ i with up:=gg }) i).kd (!true)):=by unfold jT;rw[Ij,hp]
   have Nn:fJ σ i true=aL (jT σ i true) i (!true) p:=by unfold fJ;rw[hp]
   have SI:fC σ i true=dH (dH (fJ σ i true) p) i:=by unfold fC;rw[hp]
   have lk:=R.lk;rw[Ij] at lk;have Uj:=jh R.rp;have Uk:=jh R.ri;rw[hp] at Uj Uk;have vE:=jh (aK h R.li R.lp);rw[show jH σ i=1 by unfold jH;rw[R.sd];rfl,R.sd] at vE;have HS2:=jh (λq=>aK (i:=p) (h.dn q) hpn (by rw[hgg];exact vM));rw[hp] at hab;rw[hab] at HS2;rw[show jH σ p=0 by unfold jH;rw[hab]] at HS2;have HL:=jh h;have Jc:=jh SK;have Jb:=jh Nn;have Ja:=jh SI;have HN:=jh hN;have HI:=jh (And.intro R.li (And.intro hpn (And.intro vM lk)));have HP:=jh hp;have HG:=jh hgg;have HM:=jh hn;clear h R Ij SK Nn SI hab hx lk hN hp hgg hpn vM hn;go_in;go_wp2_with fail;apply mO vE;clear vE;rintro e w1 ⟨rfl,qa,rfl⟩;go_wp2_with fail;refine(HS2.out qa).mono ?_;clear HS2;rintro e w2 ⟨rfl,qb,rfl⟩;have mR:=jh ((HL.out.dn qa).dn qb);have fO:Hid (Off [g] w ((w.drewN qa).drewN qb)):=jh (((Off.refl [g] w).drewN qa).drewN qb);obtain⟨w2,hw2⟩:=nG ((w.drewN qa).drewN qb);rw[←hw2] at mR fO⊢;clear hw2 HL c1 k2 kp2;have c1:=mR.out.c1;rw[HN.out] at c1;have f2:=mR.out.nr.fz (i*9+2);have k2:=mR.out.nr.c2 HI.out.1;rw[HP.out] at k2;have l3:bU (w2.setCell ⟨g,i*9+2,none⟩ (.int .i64 gg)) b g n cap (σ.put i { σ i with up:=gg }) li tt ed:=mR.out.nodes ((Off.refl [g] w2).setCell sj _) (mR.out.nr.s2 i gg);have gL:=jh l3;have bW:=jh (fO.out.setCell (p:=⟨g,i*9+2,none⟩) sj (.int .i64 gg));obtain⟨w3,hw3⟩:=nE (w2.setCell ⟨g,i*9+2,none⟩ (.int .i64 gg));rw[hw3] at gL bW;have HW3:=jh hw3;clear l3 mR fO hw3;have c1':=gL.out.c1;rw[HN.out] at c1';have kk:=gL.out.nr.c0 HI.out.1;obtain⟨kv,hkv⟩:∃q,((σ.put i { σ i with up:=gg }) i).k0=q:=⟨_,rfl⟩;rw[hkv] at kk
   have xR:kv≤n:=by rw[←hkv];exact HI.out.2.2.2
   have HKV:=jh hkv;have l4:=λW (H:bU W b g n cap (σ.put i { σ i with up:=gg }) li tt ed)=>dZ true H HI.out.2.1 xR;have HH:=jh l4;clear l4 hkv xR;rw[←HW3.out] at kk c1' gL bW;clear HW3;go_wp2_with fail;refine(HH.out _ gL.out).mono ?_;clear HH;rintro e w4 ⟨rfl,l4,o4⟩
   have e4:aL (σ.put i { σ i with up:=gg }) p true kv=jT σ i true:=by rw[Jc.out,←HKV.out];rfl
   rw[e4] at l4;have oQ:=jh l4;have kH:=jh (bW.out.trans o4 (λj hj=>.inl hj));clear l4 o4 gL bW kk e4;go_wp2_with fail;refine(dZ (false) oQ.out HI.out.1 HI.out.2.1).mono ?_;rintro e w5 ⟨rfl,l5,o5⟩
   have e5:aL (jT σ i true) i false p=fJ σ i true:=by rw[Jb.out];rfl
   rw[e5] at l5;have vG:=jh l5;have mQ:=jh (kH.out.trans o5 (λj hj=>.inl hj));clear l5 o5 oQ kH e5;go_wp2_with fail;refine(aQ vG.out Uj.out HM.out).mono ?_;rintro e w6 ⟨rfl,⟨t6,l6⟩,o6⟩;have tT:=jh l6;have nO:=jh (mQ.out.trans o6 (λj hj=>.inl hj));clear l6 o6 vG mQ;go_wp2_with fail;refine(aQ tT.out Uk.out HM.out).mono ?_;rintro e w7 ⟨rfl,⟨t7,l7⟩,o7⟩;have U7:=jh l7;have Ou:=jh (nO.out.trans o7 (λj hj=>.inl hj));clear l7 o7 tT nO;go_wp2;go_end0;exact⟨rfl,⟨t7,by rw[Ja.out];exact U7.out⟩,Ou.out⟩
end
section
variable {w:World} {f:iI} {S bg:Nat} {U:List Nat}
theorem Vl (st:Nat→Nat) (af tm:Nat→Int) (k j:Nat):(FN st af tm k j).oneCell'=true:=by
 unfold FN slF;split<;>rfl
theorem Tryz.PD:(Tryz.prog.info? 228).map (·.size)=some 192:=by kernel_rfl
theorem dG.slv {sv:Value} {us:Nat} {la:Int} {st:Nat→Nat} {af tm:Nat→Int} (h:dG w f S sv bg us la st af tm):∃a cap,sv=.slice a f.nb cap:=by
 rcases h.ow.2 with⟨e,e0⟩ |⟨g,cap,cur,e,_⟩
 ·exact⟨none,0,by rw[e,e0]⟩
 ·exact⟨some ⟨g,0,none⟩,cap,e⟩
theorem Av (h:yP w f S U bg) (hS:S≤65536):
  Calls Tryz.prog 86 #[.pointer (some ⟨f.h,0,none⟩)] w λe w'=>∃f',e=.returned (.pointer (some ⟨f'.h,0,none⟩))∧yP w' f' S U bg∧Bo [] f'.bl w w':=by
 obtain⟨sv,us,la,st,af,tm,R,m,o,hn⟩:=h;have hle:=o.le;obtain⟨a,cap,rfl⟩:=m.slv;obtain⟨nb,hnb⟩:=nE f.nb;obtain⟨W0,hW0⟩:∃W,(w.alloc (.cells #[.pointer (some ⟨w.heap.size,0,none⟩),.slice none 0 0,.int .i64 S,.int .i64 bg,.int .i64 us,.int .i64 la] 188)).drew=W:=⟨_,rfl⟩
 have o0:Off [] w W0:=by rw[←hW0];exact((Off.refl _ _).alloc _).drew
 have m0:=m.keep (w':=W0) λj hj=>o0.block j (m.lt j hj) sj
 have r0:Row W0 w.heap.size 6 (arH w.heap.size (.slice none 0 0) S bg us la):=by
  rw[←hW0];exact Row.lit _ _ _ (Nat.le_refl _) lC
 have c2:=m.c2;have c3:=m.c3;have c4:=m.c4;have c5:=m.c5;have d1:=m0.c1;rw[←hW0] at d1;rw[hnb] at d1;have HV:=jh (dV m);have I0:dG W0 ⟨w.heap.size,none,0,λ_=>0⟩ S (.slice none 0 0) bg us la st af tm:=⟨r0,World.ownsRow_nil _ _ _ _,rfl,λk hk=>absurd hk (Nat.not_lt_zero _),sj,λk hk=>absurd hk (Nat.not_lt_zero _),λk k' hk=>absurd hk (Nat.not_lt_zero _)⟩;have M:=jh m;have M0:=jh m0;have O:=jh o;have HN:=jh hn;have HB:=jh (And.intro hle hS);have O0:=jh o0;have HI0:=jh I0;have HW0:=jh hW0;have Ov:=jh hnb;clear m m0 o hn hle o0 r0 I0 hW0 hnb hS;go_in;go_wp2_with fail;apply mO HV;rintro e w1 ⟨rfl,rfl⟩;go_wp2
 go_still_tail 17,(by kernel_rfl)
 go_wp2_with fail;rw[HW0.out];clear c2 c3 c4 c5 d1 HV
 have B0:Hid (Bo [] (iI.bl ⟨w1.heap.size,none,0,λ_=>0⟩) w1 W0):=jh ⟨O0.out,λj hj=>by
  rcases iI.ak.1 hj with e |e |⟨k,hk,_⟩
  ·exact .inr (Nat.le_of_eq e.symm)
  ·cases e
  ·cases hk⟩
 have bnb:nb≤1024:=oF HN.out HB.out Ov.out;clear M0 HW0 O0
 go_loopg [37] nb (λQ iv wr=>∃(i:Nat) (fi:iI) (svi:Value),Q+i=nb∧iv=.int .i64 i∧Hid (fi.nb=i∧fi.h=w1.heap.size)∧Hid (dG wr fi S svi bg us la st af tm)∧Hid (Bo [] fi.bl w1 wr))
 case atStart=>exact⟨0,_,_,rfl,rfl,jh ⟨rfl,rfl⟩,HI0,B0⟩
 case round=>
  clear HI0 B0;obtain⟨i,fi,svi,hQ,rfl,HF,HA,Od⟩:=hrel
  by_cases hlt:i<nb
  ·have d1:decide ((i:Int)<nb)=true:=dP om;have d2:decide (i<nb)=true:=dP hlt;obtain⟨j,hj⟩:=nE (i+1);have wj:(i:Int)+1=(j:Int):=om;have bi:(0:Int)≤i∧(i:Int)<nb∧(nb:Int)≤1024∧(0:Int)≤j∧(j:Int)≤1024:=om;have mr:=M.out.keep (w':=wr) λq hq=>Od.out.off.block q (M.out.lt q hq) sj
   have hif:i<f.nb:=by rw[Ov.out];exact hlt
   obtain⟨g,cap',e,_⟩:=mr.sl (Nat.lt_of_le_of_lt (Nat.zero_le _) hif)
   obtain⟨rfl,rfl⟩:a=some ⟨g,0,none⟩∧cap=cap':=by cases e;exact⟨rfl,rfl⟩
   have pc:=mr.pc hif;have HR:=jh (mr.bk i hif);have cz:=HA.out.keep (w':=wr.alloc (.cells (fT 192 (FN st af tm i)) 228)) λq hq=>Below.heap_alloc _ _ _ (HA.out.lt q hq);have c1:=cz.c1;rw[HF.out.2] at c1;have HOW:Hid ((wr.alloc (.cells (fT 192 (FN st af tm i)) 228)).ownsRow 0 226 1 svi i (Bd fi)):=jh (by have:=cz.ow;rwa [HF.out.1] at this);have HJ:=jh hj;have HQ:=jh hQ;have HC:=jh cz;clear e mr hif hj hQ hlt cz
   go_wp2_with (first |(refine gZ HR.out rfl _ _ rfl rfl _ Tryz.underlying228 rfl Tryz.PD ?_) |(refine wpList_store_row rfl _ _ _ rfl wr.heap.size (fT 192 (FN st af tm i)) rfl rfl _ _ (heap_alloc_new _ _) (by rw[dz];exact Tryz.PD) (by rw[dz,Yp];simp) (rA λ_ _=>Vl _ _ _ _ _) ?_;rw[jG]) |(at_builtin;refine push afR rfl _ _ rfl 0 _ _ _ HOW.out rfl #[.pointer (some ⟨wr.heap.size,0,none⟩)] _ rfl sj rfl (by simp[Value.oneCell']) om om (Nat.zero_le _) ?_;intro g2 cp w5 hown5 hg5 hv5;refine Hid.out ?_))
   have cg:=HC.out.c1;rw[HF.out.2] at cg;have qK:w5.heap[w1.heap.size]?=(wr.alloc (.cells (fT 192 (FN st af tm i)) 228)).heap[w1.heap.size]?:=hg5.block _ (by have:=HC.out.hr.lt;rw[HF.out.2] at this;exact this) λc=>HC.out.n1 (by rw[HF.out.2];exact HC.out.og.symm.trans c.symm);have hrw:=HC.out.hr;rw[HF.out.2] at hrw;have k1:=(hrw.of_block qK).c 1;have k2:=(hrw.of_block qK).frozen 1;have ho:=Row.lit (n:=192) (f:=FN st af tm fi.nb) wr (fT 192 (FN st af tm i)) 228 (Nat.le_of_eq (dz _ _).symm) (λq hq=>by rw[HF.out.1];simp[fT]);have hown6:=hown5;rw[←HF.out.1] at hown6;have G:=dG.grow HA.out rfl ho hown6 hg5 hv5;have HG:=jh G;rw[HF.out.1,HF.out.2] at HG;clear hown5 hg5 hv5 qK hrw ho hown6 G cg c1 HOW HR HC;refine jh ?_;go_wp2
   go_roundg (nb-j)
   case measure=>have:=HJ.out;have:=HQ.out;omega
   case rel=>exact⟨j,⟨w1.heap.size,some g2,i+1,dQ fi.bs i wr.heap.size⟩,_,oC HJ.out,rfl,jh ⟨HJ.out,rfl⟩,jh HG.out.1,jh (Od.out.trans HG.out.2)⟩
  ·have d1:decide ((i:Int)<nb)=false:=dF om;have d2:decide (i<nb)=false:=dF hlt;obtain rfl:i=nb:=om;have HR:=jh (show fi.nb=(bg+63) / 64 by rw[HF.out.1,←Ov.out,HN.out]);clear hlt;go_wp2;go_ret;exact⟨fi,by rw[HF.out.2];rfl,⟨_,_,_,_,_,_,_,HA.out,O.out,HR.out⟩,Od.out⟩
end
structure UL (n:Nat) (up lab:Nat→Nat):Prop where
 le:∀i<n,up i≤i
 par:∀i<n,lab (up i)=lab i
 root:∀i<n,up i=i→lab i=i
section
variable {n:Nat} {up lab:Nat→Nat} {a b:Nat}
theorem UL.start (n:Nat):UL n id id:=⟨λ_ _=>Nat.le_refl _,λ_ _=>rfl,λ_ _ _=>rfl⟩
theorem UL.Sj (U:UL n up lab) (ha:a<n) (hr:up a≠a):UL n (λi=>if i=a then up (up a) else up i) lab:=by
 have h1:=U.le a ha;have hp:up a<n:=om;have h2:=U.le _ hp;refine⟨λi hi=>?_,λi hi=>?_,λi hi h=>?_⟩
 ·(try dsimp only);split
  ·rename_i e;omega
  ·exact U.le i hi
 ·(try dsimp only);split
  ·rename_i e;rw[U.par _ hp,e,U.par _ ha]
  ·exact U.par i hi
 ·(try dsimp only at h);split at h
  ·rename_i e;omega
  ·exact U.root i hi h
theorem UL.hang {E:List Ed} {f:List Nat} {i:Nat} (U:UL n up (bR E f i)) (F:Fo n E f) (hi:i<f.length):UL n (λx=>if x=mB E f i then mA E f i else up x) (bR E f (i+1)):=by
 have hm:=F.mlt hi;refine⟨λx hx=>?_,λx hx=>?_,λx hx h=>?_⟩
 ·(try dsimp only);split
  ·omega
  ·exact U.le x hx
 ·(try dsimp only);split
  ·rename_i e;rw[e,wC hi,BA F hi]
  ·exact GX (i:=i) (Nat.le_succ i) (U.par x hx)
 ·(try dsimp only at h);split at h
  ·omega
  ·rename_i e;have h1:=U.root x hx h;rw[iE hi,h1,if_neg e]
end
theorem XC {n i:Nat} (hi:i<n):bO n id i=1:=by
 unfold bO
 induction n with
 |zero=>omega
 |succ n ih=>
  rw[List.range_succ,List.filter_append,List.length_append]
  by_cases e:i=n
  ·subst e;rw[List.filter_eq_nil_iff.2 (λj hj=>by simp at hj⊢;omega)];simp
  ·rw[ih om];have:¬n=i:=λh=>e h.symm;simp[this]
theorem adP (n:Nat):UF n id id (λ_=>0) 0:=⟨λ_ h=>h,λ_ _ h=>absurd rfl h,λ_ _=>Nat.le_refl _,λ_ _=>rfl,λ_ _ _ _ _ _ h=>h⟩
theorem nP.congr {w:World} {base:Zone} {b ub lb sb n cnt:Nat} {up ls sz up' ls' sz':Nat→Nat} (h:nP w base b ub lb sb n up ls sz cnt) (h1:∀i<n,up i=up' i) (h2:∀i<n,ls i=ls' i) (h3:∀i<n,sz i=sz' i):nP w base b ub lb sb n up' ls' sz' cnt:=
 ⟨h.st,h.rup.congr λi hi=>by unfold iK;rw[h1 i hi],h.rls.congr λi hi=>by unfold iK;rw[h2 i hi],h.yI.congr λi hi=>by unfold iK;rw[h3 i hi],h.ne,h.lo⟩
theorem Yr (k i:Nat):(if i=k then k else if i<k then i else 0)=if i<k+1 then i else 0:=by
 repeat' split
 all_goals omega
theorem adU (k i:Nat):(if i=k then 1 else if i<k then 1 else 0)=if i<k+1 then 1 else 0:=by
 repeat' split
 all_goals omega
def MdR (w W:World) (n b x y z:Nat):Prop:=(W.cell? ⟨b,0,none⟩=some (.pointer none)∧W.frozen? ⟨b,0,none⟩=false)∧Hid (nP (W.setCell ⟨b,0,none⟩ (.pointer (some ⟨b,0,none⟩))) ⟨w.heap.size,b+1⟩ b x y z n (λ_=>0) (λ_=>0) (λ_=>0) n)∧Hid (Below w.heap.size w W)
theorem SY {w W:World} {n x y z:Nat} (hW:((((w.alloc (.cells (madeCells #[.int .i64 0] n) 3)).alloc (.cells (madeCells #[.int .i64 0] n) 3)).alloc (.cells (madeCells #[.int .i64 0] n) 3)).alloc (.cells #[.pointer none,.slice (some ⟨x,0,none⟩) n n,.slice (some ⟨y,0,none⟩) n n,.slice (some ⟨z,0,none⟩) n n,.int .i64 (n:Nat)] 314)).drew=W) (hx:x=w.heap.size∨x=w.heap.size+1∨x=w.heap.size+1+1) (hy:y=w.heap.size∨y=w.heap.size+1∨y=w.heap.size+1+1) (hz:z=w.heap.size∨z=w.heap.size+1∨z=w.heap.size+1+1) (h1:x≠y) (h2:x≠z) (h3:y≠z):MdR w W n (w.heap.size+1+1+1) x y z:=by
 obtain⟨A1,hA1⟩:∃A1,w.alloc (.cells (madeCells #[.int .i64 0] n) 3)=A1:=⟨_,rfl⟩
 have r1:Row A1 w.heap.size n (λ_=>.int .i64 0):=by rw[←hA1];exact Row.made w (.int .i64 0) n 3
 have s1:A1.heap.size=w.heap.size+1:=by rw[←hA1];simp
 have b1:Below w.heap.size w A1:=by rw[←hA1];exact(Below.refl _ w).alloc (Nat.le_refl _) _
 rw[hA1] at hW;obtain⟨A2,hA2⟩:∃A2,A1.alloc (.cells (madeCells #[.int .i64 0] n) 3)=A2:=⟨_,rfl⟩
 have r2:Row A2 (w.heap.size+1) n (λ_=>.int .i64 0):=by rw[←hA2,←s1];exact Row.made A1 (.int .i64 0) n 3
 have r1:Row A2 w.heap.size n (λ_=>.int .i64 0):=by rw[←hA2];exact r1.alloc _
 have s2:A2.heap.size=w.heap.size+1+1:=by rw[←hA2,World.size_alloc,s1]
 have b2:Below w.heap.size w A2:=by rw[←hA2];exact b1.alloc om _
 rw[hA2] at hW;obtain⟨A3,hA3⟩:∃A3,A2.alloc (.cells (madeCells #[.int .i64 0] n) 3)=A3:=⟨_,rfl⟩
 have r3:Row A3 (w.heap.size+1+1) n (λ_=>.int .i64 0):=by rw[←hA3,←s2];exact Row.made A2 (.int .i64 0) n 3
 have r1:Row A3 w.heap.size n (λ_=>.int .i64 0):=by rw[←hA3];exact r1.alloc _
 have r2:Row A3 (w.heap.size+1) n (λ_=>.int .i64 0):=by rw[←hA3];exact r2.alloc _
 have s3:A3.heap.size=w.heap.size+1+1+1:=by rw[←hA3,World.size_alloc,s2]
 have b3:Below w.heap.size w A3:=by rw[←hA3];exact b2.alloc om _
 rw[hA3] at hW;rw[←s3]
 have r:∀q,(q=w.heap.size∨q=w.heap.size+1∨q=w.heap.size+1+1)→Row W q n (iK λ_=>0)∧A3.heap.size≠q:=λq hq=>by
  refine⟨?_,om⟩;rw[←hW]
  rcases hq with rfl |rfl |rfl
  ·exact r1.alloc _
  ·exact r2.alloc _
  ·exact r3.alloc _
 have st:Row W A3.heap.size 5 (λi=>(#[Value.pointer none,.slice (some ⟨x,0,none⟩) n n,.slice (some ⟨y,0,none⟩) n n,.slice (some ⟨z,0,none⟩) n n,.int .i64 n]:Array Value).getD i undef):=by
  rw[←hW]
  exact Row.lit A3 _ _ (Nat.le_refl _) λi hi=>by
   match i,hi with
   |0,_ |1,_ |2,_ |3,_ |4,_=>rfl
   |k+5,e=>exact absurd e om
 have so:∀q,(q=w.heap.size∨q=w.heap.size+1∨q=w.heap.size+1+1)→Row (W.setCell ⟨A3.heap.size,0,none⟩ (.pointer (some ⟨A3.heap.size,0,none⟩))) q n (iK λ_=>0):=λq hq=>(r q hq).1.setOther (λe=>(r q hq).2 e.symm) _;refine⟨⟨st.c 0,st.frozen 0⟩,jh ⟨(st.set 0 _).congr λi hi=>?_,so x hx,so y hy,so z hz,⟨(r x hx).2,(r y hy).2,(r z hz).2,h1,h2,h3⟩,by simp only[Zone.has];omega⟩,jh (by rw[←hW];exact(b3.alloc om _).drew)⟩
 match i,hi with
 |0,_ |1,_ |2,_ |3,_ |4,_=>rfl
 |k+5,e=>exact absurd e om
theorem Ta (n:Nat) (w:World) (hn:n≤65536):
  Calls Tryz.prog 187 #[.int .i64 (n:Nat)] w λe w'=>∃b,e=.returned (.tuple #[.pointer (some ⟨b,0,none⟩),.int .i64 0])∧DS w' ⟨w.heap.size,w'.heap.size⟩ b n id∧Below w.heap.size w w':=by
 have k1:decide ((n:Int)<0)=false:=dF om;have k2:decide ((n:Int)>65536)=false:=dF om
 have hmk:∀w,(Instr.makeSlice 64 (.int .i64 n) (.int .i64 n)).run Tryz.prog w=.ok (.slice (some ⟨w.heap.size,0,none⟩) n n) (w.alloc (.cells (madeCells #[.int .i64 0] n) 3)):=λw=>
  run_make_row' (P:=Tryz.prog) 64 3 (.int .i64 0) 8 Tryz.underlying64 Tryz.ng rfl .i64 .i64 n om om w
 go_in
 go_upto_region 3 with(fail)
 go_cut [4] (λs wx=>∃b x y z,s=.pointer (some ⟨b,0,none⟩)∧MdR w wx n b x y z)
 case first=>
  go_region
  all_goals
   go_wp2;go_meet;exact⟨_,_,_,_,rfl,SY rfl om om om om om om⟩
 case rest=>
  clear hmk;obtain⟨b,x,y,z,rfl,⟨c0,f0⟩,HM,HB⟩:=hcut;go_wp2_with fail;have afZ:=jh (HB.out.setCell (p:=⟨b,0,none⟩) HM.out.lo.1.1 (.pointer (some ⟨b,0,none⟩)));generalize wc.setCell ⟨b,0,none⟩ (.pointer (some ⟨b,0,none⟩))=W at*;clear c0 f0;have M0:=HM.out.congr (up':=λi=>if i<0 then i else 0) (ls':=λi=>if i<0 then i else 0) (sz':=λi=>if i<0 then 1 else 0) (λi _=>by rw[if_neg om]) (λi _=>by rw[if_neg om]) (λi _=>by rw[if_neg om]);have dN:=afZ.out;clear HM HB afZ
  go_loopw [26] (λi wr=>∃k:Nat,k≤n∧i=.int .i64 k∧Hid (nP wr ⟨w.heap.size,b+1⟩ b x y z n (λi=>if i<k then i else 0) (λi=>if i<k then i else 0) (λi=>if i<k then 1 else 0) n)∧Below w.heap.size w wr) (λi _=>n-(intOf i).toNat)
  case atStart=>exact⟨0,Nat.zero_le _,rfl,jh M0,dN⟩
  case round=>
   clear M0 dN;obtain⟨k,hk,rfl,HM,dN⟩:=hrel
   by_cases hlt:k<n
   ·have hki:(0:Int)≤k∧(k:Int)<n:=om;have c1:wr.cell? ⟨b,1,none⟩=some (.slice (some ⟨x,0,none⟩) n n):=HM.out.st.c 1;have c2:wr.cell? ⟨b,2,none⟩=some (.slice (some ⟨y,0,none⟩) n n):=HM.out.st.c 2;have c3:wr.cell? ⟨b,3,none⟩=some (.slice (some ⟨z,0,none⟩) n n):=HM.out.st.c 3;have M1:=HM.out.rz k k;have M2:=M1.DJ k k;have M3:=M2.PY k 1;have e1:=HM.out.rup.cell hlt;have e2:=HM.out.rup.frozen k;have e3:=M1.rls.cell hlt;have e4:=M1.rls.frozen k;have e5:=M2.yI.cell hlt;have e6:=M2.yI.frozen k;have yN:=jh (M3.drew.congr (up':=λi=>if i<k+1 then i else 0) (ls':=λi=>if i<k+1 then i else 0) (sz':=λi=>if i<k+1 then 1 else 0) (λi _=>Yr k i) (λi _=>Yr k i) (λi _=>adU k i));have HB3:=jh ((((dN.setCell (p:=⟨x,k,none⟩) HM.out.lo.2.1.1 (.int .i64 k)).setCell (p:=⟨y,k,none⟩) HM.out.lo.2.2.1.1 (.int .i64 k)).setCell (p:=⟨z,k,none⟩) HM.out.lo.2.2.2.1 (.int .i64 ((1:Nat):Int))).drew);have HS:wr.drew.cell? ⟨b,1,none⟩=some (.slice (some ⟨x,0,none⟩) n n)∧wr.drew.cell? ⟨b,2,none⟩=some (.slice (some ⟨y,0,none⟩) n n)∧wr.drew.cell? ⟨b,3,none⟩=some (.slice (some ⟨z,0,none⟩) n n):=⟨c1,c2,c3⟩;have vE:=And.intro (M1.drew.st.c 1) (And.intro (M1.drew.st.c 2) (M1.drew.st.c 3));have HS2:=And.intro (M2.drew.st.c 1) (And.intro (M2.drew.st.c 2) (M2.drew.st.c 3));have FD:=And.intro (M3.drew.st.c 1) (And.intro (M3.drew.st.c 2) (M3.drew.st.c 3));clear M1 M2 M3 HM;simp only[iK] at e1 e3 e5;go_wp2;refine aj (λw'=>w'.cell? ⟨b,1,none⟩=some (.slice (some ⟨x,0,none⟩) n n)∧w'.cell? ⟨b,2,none⟩=some (.slice (some ⟨y,0,none⟩) n n)∧w'.cell? ⟨b,3,none⟩=some (.slice (some ⟨z,0,none⟩) n n)) (by kernel_rfl) ?_;refine tC 0 ?_;refine tC 1 ?_;refine tC 2 ?_;refine tC 3 ?_;refine tC 4 ?_;refine tC 5 ?_;refine tC 6 ?_;refine tC 7 ?_;refine tC 8 ?_;refine tC 9 ?_;refine tC 10 ?_;refine tC 11 ?_;refine tC 12 ?_;refine tC 13 ?_;refine tC 14 ?_;refine tC 15 ?_;refine tC 16 ?_;refine tC 17 ?_
    try simp only[sD]
    refine rC 18 λK hK=>?_;go_simp;refine hK.out _ _ vE (λHS=>?_);clear hK;refine tC 19 ?_
    try simp only[sD]
    refine rC 20 λK hK=>?_;go_simp;refine hK.out _ _ HS2 (λHS=>?_);clear hK;refine tC 21 ?_
    try simp only[sD]
    refine rC 22 λK hK=>?_;go_simp;refine hK.out _ _ FD (λ_=>?_);clear hK;refine dD ⟨rfl,?_⟩;go_wp2;go_roundw
    case rel=>exact⟨k+1,om,by go_num,yN,HB3.out⟩
    case measure=>simp only[intOf];omega
   ·have hke:k=n:=om
    have HD:DS wr ⟨w.heap.size,wr.heap.size⟩ b n id:=DS.widen (z:=⟨w.heap.size,b+1⟩) ⟨x,y,z,id,id,λ_=>1,λ_=>0,0,by
     rw[Ku]
     exact HM.out.congr (λi hi=>if_pos om) (λi hi=>if_pos om) (λi hi=>if_pos om),adP n,dR.id,λi hi _=>⟨rfl,(XC hi).symm⟩⟩ (Nat.le_refl _) HM.out.size.1
    have HD:=jh HD;clear HM;go_wp2;go_ret2;exact⟨_,rfl,HD.out,dN⟩
def kS (up rt:Nat→Nat) (q:Nat):Value:=.int .i64 ((if q%2=0 then up (q / 2) else rt (q / 2):Nat):Int)
theorem JA (up rt:Nat→Nat) (x:Nat):kS up rt (x*2)=.int .i64 (up x:Nat):=by
 unfold kS;rw[if_pos om,show x*2 / 2=x by omega]
theorem JB (up rt:Nat→Nat) (x:Nat):kS up rt (x*2+1)=.int .i64 (rt x:Nat):=by
 unfold kS;rw[if_neg om,show(x*2+1) / 2=x by omega]
section
variable {w:World} {g n:Nat} {up rt:Nat→Nat}
theorem wN (h:Row w g (2*n) (kS up rt)) (x v:Nat):Row (w.setCell ⟨g,x*2,none⟩ (.int .i64 (v:Nat))) g (2*n) (kS (λi=>if i=x then v else up i) rt):=
 (h.set (x*2) _).congr λq _=>by
  by_cases e:q=x*2
  ·rw[if_pos e,e,JA,if_pos rfl]
  ·rw[if_neg e];unfold kS
   by_cases c:q%2=0
   ·rw[if_pos c,if_pos c];dsimp only;rw[if_neg om]
   ·rw[if_neg c,if_neg c]
theorem Gg (h:Row w g (2*n) (kS up rt)) (x v:Nat):Row (w.setCell ⟨g,x*2+1,none⟩ (.int .i64 (v:Nat))) g (2*n) (kS up (λi=>if i=x then v else rt i)):=
 (h.set (x*2+1) _).congr λq _=>by
  by_cases e:q=x*2+1
  ·rw[if_pos e,e,JB,if_pos rfl]
  ·rw[if_neg e];unfold kS
   by_cases c:q%2=0
   ·rw[if_pos c,if_pos c]
   ·rw[if_neg c,if_neg c];dsimp only;rw[if_neg om]
theorem kZ (h:Row w g (2*n) (kS up rt)) {x:Nat} (hx:x<n):w.cell? ⟨g,x*2,none⟩=some (.int .i64 (up x:Nat)):=by rw[h.cell om,JA]
theorem jR (h:Row w g (2*n) (kS up rt)) {x:Nat} (hx:x<n):w.cell? ⟨g,x*2+1,none⟩=some (.int .i64 (rt x:Nat)):=by rw[h.cell om,JB]
end
def ac0 (sb n x:Nat) (rt lab:Nat→Nat) (w:World) (e:Ending) (w':World):Prop:=
 e=.returned (.int .i64 (lab x:Nat))∧∃up',Row w' sb (2*n) (kS up' rt)∧UL n up' lab∧Inner ⟨sb,sb+1⟩ w w'
theorem zG (sb n x:Nat) (up rt lab:Nat→Nat) (w:World) (hR:Row w sb (2*n) (kS up rt)) (U:UL n up lab) (K:dR lab) (hx:x<n):
  Calls Tryz.prog 161 #[.slice (some ⟨sb,0,none⟩) n n,.int .i64 (x:Nat)] w (ac0 sb n x rt lab w):=by
 have HR:=jh hR;have HU:=jh U;have HK:=jh K;clear hR U K;go_in;go_wp2
 go_loopw [1] (λi wr=>∃(y:Nat) (u:Nat→Nat),y<n∧i=.int .i64 y∧Hid (lab y=lab x)∧Hid (Row wr sb (2*n) (kS u rt))∧Hid (UL n u lab)∧Hid (Inner ⟨sb,sb+1⟩ w wr)) (λi _=>(intOf i).toNat)
 case atStart=>exact⟨x,up,hx,rfl,jh rfl,HR,HU,jh (Inner.refl _ _)⟩
 case round=>
  clear HR HU;obtain⟨y,u,hy,rfl,HL,HR,HU,HI⟩:=hrel;have c1:=kZ HR.out hy;have hyi:(0:Int)≤y∧(y:Int)<n:=om
  by_cases hr:u y=y
  ·have hz:(((u y:Nat):Int) !=(y:Int))=false:=by simp[hr]
   have HQ:=jh (show lab x=y by rw[←HL.out];exact HU.out.root y hy hr);generalize u y=p at c1 hz;clear hr;go_wp2;go_ret;exact⟨by rw[HQ.out];rfl,u,HR.out,HU.out,HI.out⟩
  ·have hz:(((u y:Nat):Int) !=(y:Int))=true:=by simp;omega
   have h1:=HU.out.le y hy;have hp:u y<n:=om;have c2:=kZ HR.out hp;have h2:=HU.out.le _ hp;have hpi:(0:Int)≤(u y:Nat)∧((u y:Nat):Int)<n:=om;have f1:=HR.out.frozen (y*2);have R2:=wN HR.out y (u (u y));have Uh:=jh (HU.out.Sj hy hr);have HL2:=jh (show lab (u (u y))=lab x by rw[HU.out.par _ hp,HU.out.par _ hy,HL.out])
   have c3:(wr.setCell ⟨sb,y*2,none⟩ (.int .i64 (u (u y):Nat))).cell? ⟨sb,y*2,none⟩=some (.int .i64 (u (u y):Nat)):=by rw[kZ R2 hy,if_pos rfl]
   have HR2:=jh R2;have hlt:u (u y)<y:=om;have hpp:u (u y)<n:=om;have HI2:=jh (HI.out.setCell (p:=⟨sb,y*2,none⟩) ⟨Nat.le_refl _,Nat.lt_succ_self _⟩ (.int .i64 (u (u y):Nat)));clear R2 HR HU HL HI h1 h2 hr;go_wp2
   go_still_tail 13,(by kernel_rfl)
   go_wp2;go_roundw
   case rel=>exact⟨u (u y),_,hpp,rfl,HL2,jh (HR2.out.drewN 1),Uh,jh HI2.out.drew⟩
   case measure=>simpa only[intOf,Int.toNat_natCast] using hlt
structure fB where
 t:Nat
 l:Nat
 r:Nat
 p:Nat
 h:Nat
 s:Nat
 u:Nat
def fB.list (b:fB):List Nat:=[b.t,b.l,b.r,b.p,b.h,b.s,b.u]
def Dif (l:List Nat):Prop:=∀i j a b:Nat,l[i]?=some a→l[j]?=some b→i≠j→a≠b
theorem Dif.ne {l:List Nat} (h:Dif l) (i j:Nat) {a b:Nat} (hi:l[i]?=some a) (hj:l[j]?=some b) (hij:i≠j):a≠b:=h i j a b hi hj hij
def jE (n z:Nat) (b:fB):Array Value:=#[.int .i64 (n:Nat),.slice (some ⟨b.l,0,none⟩) z z,.slice (some ⟨b.r,0,none⟩) z z,.slice (some ⟨b.p,0,none⟩) z z,.slice (some ⟨b.h,0,none⟩) z z,.slice (some ⟨b.s,0,none⟩) z z]
def trC (n z:Nat) (b:fB) (i:Nat):Value:=(jE n z b).getD i undef
def aX (f:Nat→Int) (x:Nat):Value:=.int .i64 (f x)
structure nM (w:World) (b:fB) (n z:Nat) (L R P H Z:Nat→Int) (up rt:Nat→Nat):Prop where
 dif:Dif b.list
 st:Row w b.t 6 (trC n z b)
 rl:Row w b.l z (aX L)
 rr:Row w b.r z (aX R)
 rp:Row w b.p z (aX P)
 rh:Row w b.h z (aX H)
 rs:Row w b.s z (aX Z)
 ru:Row w b.u (2*n) (kS up rt)
def lV (f:Nat→Int) (x:Nat) (v:Int) (y:Nat):Int:=if y=x then v else f y
theorem lJ (f:Nat→Int) (x:Nat) (v:Int) (y:Nat):(if y=x then Value.int .i64 v else aX f y)=aX (lV f x v) y:=by
 unfold aX lV;by_cases c:y=x<;>simp[c]
section
variable {w w':World} {b:fB} {n z:Nat} {L R P H Z L' R' P' H' Z':Nat→Int} {up rt up' UA:Nat→Nat}
theorem nM.drew (h:nM w b n z L R P H Z up rt):nM w.drew b n z L R P H Z up rt:=⟨h.dif,h.st,h.rl,h.rr,h.rp,h.rh,h.rs,h.ru⟩
theorem nM.congr (h:nM w b n z L R P H Z up rt) (e1:∀i<z,L i=L' i) (e2:∀i<z,R i=R' i) (e3:∀i<z,P i=P' i) (e4:∀i<z,H i=H' i) (e5:∀i<z,Z i=Z' i):nM w b n z L' R' P' H' Z' up rt:=
 ⟨h.dif,h.st,h.rl.congr λi hi=>by unfold aX;rw[e1 i hi],h.rr.congr λi hi=>by unfold aX;rw[e2 i hi],h.rp.congr λi hi=>by unfold aX;rw[e3 i hi],h.rh.congr λi hi=>by unfold aX;rw[e4 i hi],h.rs.congr λi hi=>by unfold aX;rw[e5 i hi],h.ru⟩
theorem nM.Ci (h:nM w b n z L R P H Z up rt) (e1:∀i<n,up i=up' i) (e2:∀i<n,rt i=UA i):nM w b n z L R P H Z up' UA:=
 ⟨h.dif,h.st,h.rl,h.rr,h.rp,h.rh,h.rs,h.ru.congr λq hq=>by unfold kS;rw[e1 (q / 2) om,e2 (q / 2) om]⟩
theorem nM.Vq (h:nM w b n z L R P H Z up rt) (x:Nat) (v:Int):nM (w.setCell ⟨b.l,x,none⟩ (.int .i64 v)) b n z (lV L x v) R P H Z up rt:=
 ⟨h.dif,h.st.setOther (h.dif.ne 0 1 rfl rfl (by decide)) _,(h.rl.set x _).congr λy _=>lJ L x v y,h.rr.setOther (h.dif.ne 2 1 rfl rfl (by decide)) _,h.rp.setOther (h.dif.ne 3 1 rfl rfl (by decide)) _,h.rh.setOther (h.dif.ne 4 1 rfl rfl (by decide)) _,h.rs.setOther (h.dif.ne 5 1 rfl rfl (by decide)) _,h.ru.setOther (h.dif.ne 6 1 rfl rfl (by decide)) _⟩
theorem nM.Vp (h:nM w b n z L R P H Z up rt) (x:Nat) (v:Int):nM (w.setCell ⟨b.r,x,none⟩ (.int .i64 v)) b n z L (lV R x v) P H Z up rt:=
 ⟨h.dif,h.st.setOther (h.dif.ne 0 2 rfl rfl (by decide)) _,h.rl.setOther (h.dif.ne 1 2 rfl rfl (by decide)) _,(h.rr.set x _).congr λy _=>lJ R x v y,h.rp.setOther (h.dif.ne 3 2 rfl rfl (by decide)) _,h.rh.setOther (h.dif.ne 4 2 rfl rfl (by decide)) _,h.rs.setOther (h.dif.ne 5 2 rfl rfl (by decide)) _,h.ru.setOther (h.dif.ne 6 2 rfl rfl (by decide)) _⟩
theorem nM.PZ (h:nM w b n z L R P H Z up rt) (x:Nat) (v:Int):nM (w.setCell ⟨b.p,x,none⟩ (.int .i64 v)) b n z L R (lV P x v) H Z up rt:=
 ⟨h.dif,h.st.setOther (h.dif.ne 0 3 rfl rfl (by decide)) _,h.rl.setOther (h.dif.ne 1 3 rfl rfl (by decide)) _,h.rr.setOther (h.dif.ne 2 3 rfl rfl (by decide)) _,(h.rp.set x _).congr λy _=>lJ P x v y,h.rh.setOther (h.dif.ne 4 3 rfl rfl (by decide)) _,h.rs.setOther (h.dif.ne 5 3 rfl rfl (by decide)) _,h.ru.setOther (h.dif.ne 6 3 rfl rfl (by decide)) _⟩
theorem nM.setH (h:nM w b n z L R P H Z up rt) (x:Nat) (v:Int):nM (w.setCell ⟨b.h,x,none⟩ (.int .i64 v)) b n z L R P (lV H x v) Z up rt:=
 ⟨h.dif,h.st.setOther (h.dif.ne 0 4 rfl rfl (by decide)) _,h.rl.setOther (h.dif.ne 1 4 rfl rfl (by decide)) _,h.rr.setOther (h.dif.ne 2 4 rfl rfl (by decide)) _,h.rp.setOther (h.dif.ne 3 4 rfl rfl (by decide)) _,(h.rh.set x _).congr λy _=>lJ H x v y,h.rs.setOther (h.dif.ne 5 4 rfl rfl (by decide)) _,h.ru.setOther (h.dif.ne 6 4 rfl rfl (by decide)) _⟩
theorem nM.Vo (h:nM w b n z L R P H Z up rt) (x:Nat) (v:Int):nM (w.setCell ⟨b.s,x,none⟩ (.int .i64 v)) b n z L R P H (lV Z x v) up rt:=
 ⟨h.dif,h.st.setOther (h.dif.ne 0 5 rfl rfl (by decide)) _,h.rl.setOther (h.dif.ne 1 5 rfl rfl (by decide)) _,h.rr.setOther (h.dif.ne 2 5 rfl rfl (by decide)) _,h.rp.setOther (h.dif.ne 3 5 rfl rfl (by decide)) _,h.rh.setOther (h.dif.ne 4 5 rfl rfl (by decide)) _,(h.rs.set x _).congr λy _=>lJ Z x v y,h.ru.setOther (h.dif.ne 6 5 rfl rfl (by decide)) _⟩
theorem nM.zy (h:nM w b n z L R P H Z up rt) (hi:Inner ⟨b.u,b.u+1⟩ w w') (hr:Row w' b.u (2*n) (kS up' UA)):nM w' b n z L R P H Z up' UA:=by
 have k:∀g,g≠b.u→¬(Zone.mk b.u (b.u+1)).has g:=λg hg c=>by unfold Zone.has at c;simp at c;omega
 exact⟨h.dif,h.st.inner hi (k _ (h.dif.ne 0 6 rfl rfl (by decide))),h.rl.inner hi (k _ (h.dif.ne 1 6 rfl rfl (by decide))),h.rr.inner hi (k _ (h.dif.ne 2 6 rfl rfl (by decide))),h.rp.inner hi (k _ (h.dif.ne 3 6 rfl rfl (by decide))),h.rh.inner hi (k _ (h.dif.ne 4 6 rfl rfl (by decide))),h.rs.inner hi (k _ (h.dif.ne 5 6 rfl rfl (by decide))),hr⟩
theorem nM.rz (h:nM w b n z L R P H Z up rt) (x v:Nat):nM (w.setCell ⟨b.u,x*2,none⟩ (.int .i64 (v:Nat))) b n z L R P H Z (λi=>if i=x then v else up i) rt:=
 h.zy ((Inner.refl _ _).setCell (p:=⟨b.u,x*2,none⟩) ⟨Nat.le_refl _,Nat.lt_succ_self _⟩ _) (wN h.ru x v)
theorem nM.Jt (h:nM w b n z L R P H Z up rt) (x v:Nat):nM (w.setCell ⟨b.u,x*2+1,none⟩ (.int .i64 (v:Nat))) b n z L R P H Z up (λi=>if i=x then v else rt i):=
 h.zy ((Inner.refl _ _).setCell (p:=⟨b.u,x*2+1,none⟩) ⟨Nat.le_refl _,Nat.lt_succ_self _⟩ _) (Gg h.ru x v)
theorem nM.fields (h:nM w b n z L R P H Z up rt):w.cell? ⟨b.t,1,none⟩=some (.slice (some ⟨b.l,0,none⟩) z z)∧w.cell? ⟨b.t,2,none⟩=some (.slice (some ⟨b.r,0,none⟩) z z)∧w.cell? ⟨b.t,3,none⟩=some (.slice (some ⟨b.p,0,none⟩) z z)∧w.cell? ⟨b.t,4,none⟩=some (.slice (some ⟨b.h,0,none⟩) z z)∧w.cell? ⟨b.t,5,none⟩=some (.slice (some ⟨b.s,0,none⟩) z z):=
 ⟨h.st.c 1,h.st.c 2,h.st.c 3,h.st.c 4,h.st.c 5⟩
end
def nL (lab:Nat→Nat) (i:Nat):List Nat:=(List.range i).filter λj=>decide (lab j=j)
theorem Wq (lab:Nat→Nat) (i:Nat):(nL lab i).length=iL i lab:=rfl
end Go.Proofs.YtpaeogglppampaaGreat
