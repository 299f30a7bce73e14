/- Lemmas of the proof. Conditions: as each one states. -/
import Derived.Test.YtpaeogglppampaaGreatQT
set_option maxRecDepth 100000
set_option maxHeartbeats 16000000
namespace Go.Proofs.YtpaeogglppampaaGreat
open Go.RowKit
theorem yh (args:Array Value) (w:World):(callFunc 36 args).run Tryz.prog w=.ok (.enter 36 args) w:=vD Tryz.func36 (by kernel_rfl) (by kernel_rfl) _ _
section
variable {w:World} {G:dW} {c:Cf} {nw ex:Int} {ad:Nat} {s:St} {vb lo hi:Nat} {S:List Int} {K:List Nat} {cap z g:Nat} {b:fB} {cb fb:Nat}
theorem OG (h:nJ w G c vb (qc ad ex) s lo hi S K cap z g b cb fb) (hw:tO w G c nw ad ex s) (hV:c.V≤12) (θ:Int):
  Calls Tryz.prog 17 #[.pointer (some ⟨vb,0,none⟩),.int .i64 θ] w λe w'=>Off [] w w'∧nJ w' G c vb (qc ad ex) s lo hi S K cap z g b cb fb∧∃v,e=.returned v∧w'.ownsRow w.heap.size 49 2 v (nL (gV (jq S s K) θ) S.length).length (flat (Jh S (gV (jq S s K) θ) (nL (gV (jq S s K) θ) S.length)) (nL (gV (jq S s K) θ) S.length).length 2):=by
 obtain⟨tb,htb⟩:=nE w.heap.size;obtain⟨W1,hW1⟩:∃W,w.alloc (.cells #[.int .i64 θ] 2)=W:=⟨_,rfl⟩
 have o1:Off [] w W1:=by rw[←hW1];exact(Off.refl _ _).alloc _
 have rt:Row W1 tb 1 (λi=>(#[Value.int .i64 θ]:Array Value).getD i undef):=by
  rw[←hW1,←htb];exact Row.lit w _ _ (Nat.le_refl _) lC
 have h1s:W1.heap.size=tb+1:=by rw[←hW1,←htb];simp
 obtain⟨W2,hW2⟩:∃W,W1.alloc (.cells #[.slice none 0 0] 56)=W:=⟨_,rfl⟩
 have o2:Off [] W1 W2:=by rw[←hW2];exact(Off.refl _ _).alloc _
 have rl:Row W2 (tb+1) 1 (λ_=>.slice none 0 0):=by
  rw[←hW2,←h1s];exact Row.lit W1 _ _ (Nat.le_refl _) lC
 have h2s:W2.heap.size=tb+2:=by rw[←hW2];simp[h1s]
 have FC:=jh (lT (h.off o1 sj).row);have H2:=jh ((h.off o1 sj).off o2 sj);have fu:=jh (o1.trans o2 sj);have HT2:=jh (rt.off o2 sj);have HL2:=jh rl;have hw2:=jh ((hw.off o1).off o2);have HW1:=jh hW1;have HW2:=jh hW2;have H1S:=jh h1s;have H2S:=jh h2s;have IY:=jh htb;have hhi:=h.uZ;clear h hw o1 o2 rt rl hW1 hW2 h1s h2s;go_in;go_wp2_with fail;rw[HW1.out]
 try rw[htb]
 clear htb;apply mO FC;rintro e wq ⟨rfl,rfl⟩;clear FC;have cf:=yh;go_wp2_with fail;rw[HW2.out]
 try rw[H1S.out]
 clear cf;obtain⟨f,hk,ws⟩:=hw2.out;have h2s:=H2S.out;have htb:=IY.out;refine(Dj H2.out hk hV yh (P:=λw'=>nJ w' G c vb (qc ad ex) s lo hi S K cap z g b cb fb∧Off [tb+1] W2 w'∧∃v,Row w' (tb+1) 1 (λ_=>v)∧w'.ownsRow w.heap.size 49 2 v (nL (gV (jq S s K) θ) S.length).length (flat (Jh S (gV (jq S s K) θ) (nL (gV (jq S s K) θ) S.length)) (nL (gV (jq S s K) θ) S.length).length 2)) (λW oW hK=>?_)).mono ?_
 ·have hsW:=oW.size;have hgl:=hK.self.FU;refine(XB (tb:=tb) (lc:=tb+1) hK.self hK.uZ hK.Xn.nZ ((HT2.out.off oW sj).c 0) om (HL2.out.off oW sj) om om).mono ?_;rintro e w' ⟨rfl,o5,v,r5,h5⟩;refine⟨rfl,hK.off o5 (by have:=H2.out.vlt;have:=H2.out.self.FU;have:=H2.out.gge;simp;omega),oW.mono sj |>.trans o5 sj,v,r5,h5.1,h5.2.imp id ?_⟩;rintro⟨g',cap',cur,e1,hb,rest⟩;exact⟨g',cap',cur,e1,om,rest⟩
 ·rintro e w4 ⟨rfl,hvk,o4,v,r4,h4⟩;have HF:=jh (And.intro (fu.out.trans o4 (by simp;omega)) (And.intro hvk h4));have q0:w4.cell? ⟨tb+1,0,none⟩=some v:=r4.c 0;clear hvk o4 r4 h4 hk ws;go_wp2;go_ret;exact⟨HF.out.1,HF.out.2.1,v,rfl,HF.out.2.2⟩
end
section
variable {w:World} {A:Nat→Addr} {sa:Option Addr} {cap:Nat} {L:List Sp}
theorem zf.turn {w w':World} {G G':dW} {c:Cf} {vb:Nat} (h:zf w G c vb) (b:Bo (G.bl c.E) (G'.bl c.E) w w') (hb:G'.b=G.b):zf w' G' c vb:=
 ⟨by rw[hb];exact h.1.off b.off h.2,λhj=>(b.fU vb hj).elim h.2 λe=>oC h.1.lt⟩
theorem rT {w0 w w':World} {G G':dW} {E:Nat} (h:∀j∈G.bl E,w0.heap.size≤j) (o:Off [] w0 w) (b:Bo (G.bl E) (G'.bl E) w w'):(∀j∈G'.bl E,w0.heap.size≤j)∧Off [] w0 w':=
 ⟨λj hj=>(b.fU j hj).elim (h j) λe=>oC o.size,o.trans b.off λj hj=>.inr (h j hj)⟩
theorem Vf (W E V D u θ:Int) (hS:SS w w.heap.size (.slice sa L.length cap) L A) (hm:L.length≤9223372036854775807) (hwf:ab2 L) (hW:dM W):
  Calls Tryz.prog 3 #[.agg #[.int .i64 W,.int .i64 E,.int .i64 V,.int .i64 D],.slice sa L.length cap,.int .u64 u,.int .i64 θ] w λe w'=>e=.returned (.bool true)∧Off [] w w':=by
 have HS:=jh hS;have HWf:=jh hwf;obtain⟨n,hn⟩:=nE L.length;have HN:=jh hn;rw[hn] at hm⊢;obtain⟨cb,hcb⟩:=nE w.heap.size;obtain⟨W1,hW1⟩:∃X,w.alloc (.cells #[.int .i64 W,.int .i64 E,.int .i64 V,.int .i64 D] 23)=X:=⟨_,rfl⟩
 have o1:Off [] w W1:=by rw[←hW1];exact(Off.refl _ _).alloc _
 have r1:Row W1 cb 4 (λi=>(#[Value.int .i64 W,.int .i64 E,.int .i64 V,.int .i64 D]:Array Value).getD i undef):=by
  rw[←hW1,←hcb];exact Row.lit w _ _ (Nat.le_refl _) lC
 have HNw:=jh (Di W1 W E V D hW);have fO:=jh o1;have HR1:=jh r1;have HW1:=jh hW1;have HCB:=jh hcb;have HWk:=λX=>jh (Dh X);have c0:W1.cell? ⟨cb,0,none⟩=some (.int .i64 W):=r1.c 0;have c1:W1.cell? ⟨cb,1,none⟩=some (.int .i64 E):=r1.c 1;have c2:W1.cell? ⟨cb,2,none⟩=some (.int .i64 V):=r1.c 2;have c3:W1.cell? ⟨cb,3,none⟩=some (.int .i64 D):=r1.c 3;clear hS hwf hn hW1 o1 r1;go_in;go_wp2_with fail;rw[HW1.out]
 try rw[hcb]
 clear hcb;apply mO HNw;clear HNw;rintro e w2 (⟨rfl,o2,hb⟩ |⟨c,G,rfl,hw,b1,hcw,hcE,YV⟩)
 ·have fu:=jh (fO.out.trans o2 sj);clear o2 hb c0 c1 c2 c3;go_wp2_with fail;refine(HWk w2).out.mono ?_;rintro e w3 ⟨rfl,o3⟩;have bW:=jh (fu.out.trans o3 sj);clear o3;go_wp2;go_ret;exact⟨rfl,bW.out⟩
 have HB1:=jh b1;have HW:=jh hw;have HC:=jh (And.intro hcw (And.intro hcE YV));have hr2:=HR1.out.off b1.off sj;have hSm:=λX=>jh (LV (w:=X) W E V D sa n cap hm);have d0:w2.cell? ⟨cb,0,none⟩=some (.int .i64 W):=hr2.c 0;have d1:w2.cell? ⟨cb,1,none⟩=some (.int .i64 E):=hr2.c 1;have d2:w2.cell? ⟨cb,2,none⟩=some (.int .i64 V):=hr2.c 2;have d3:w2.cell? ⟨cb,3,none⟩=some (.int .i64 D):=hr2.c 3;clear b1 hw hcw hcE YV hr2 c0 c1 c2 c3;go_wp2_with fail;refine(hSm w2).out.mono ?_;rintro e w3 ⟨rfl,o3⟩;have bW:=jh o3;clear o3 d0 d1 d2 d3 hSm;obtain⟨sm,hsm⟩:=nE ((decide (V≤12)&&decide (E≤30)&&decide ((n:Int)≤60)));have yM:=jh hsm
 have Ob:=jh (show(∀j∈G.bl c.E,w.heap.size≤j)∧Off [] w w2 from
  ⟨λj hj=>(HB1.out.fU j hj).elim (λe=>by simp at e) λe=>oC fO.out.size,fO.out.trans HB1.out.off sj⟩)
 rw[hsm];clear hsm
 cases sm with
 |false=>
  go_wp2_with fail;refine(HWk w3).out.mono ?_;rintro e w4 ⟨rfl,o4⟩;have kH:=jh ((Ob.out.2.trans bW.out sj).trans o4 sj);clear o4;go_wp2;go_ret;exact⟨rfl,kH.out⟩
 |true=>
  have hlim:=yM.out;simp only[Bool.and_eq_true,decide_eq_true_eq] at hlim;obtain⟨⟨Xh,akw⟩,ajZ⟩:=hlim;have YV:c.V≤12:=oC HC.out.2.2;have hcE:c.E≤30:=oC HC.out.2.1;have hw3:=HW.out.off bW.out;have HW3:=jh hw3;obtain⟨f,hk,ws⟩:=hw3;have HVn:=jh (Dm hk ws.cf);clear hk ws yM Xh akw;go_wp2_with fail;apply mO HVn;clear HVn;rintro e w4 ⟨vb,rfl,o4,hvb,hvf⟩;have Oq:=jh (HW3.out.off o4);have Yg:=jh hvf
  have HN4:=jh (show(∀j∈G.bl c.E,w.heap.size≤j)∧Off [] w w4∧w.heap.size≤vb from
   ⟨Ob.out.1,(Ob.out.2.trans bW.out sj).trans o4 sj,oD Ob.out.2.size bW.out.size⟩)
  clear o4 hvb hvf HW3 bW Ob HB1 HW fO HR1;obtain⟨gb,hgb⟩:=nE G.b;have FX:=jh hgb;rw[hgb];clear hgb;have hnn:(n:Int)≤60:=ajZ;go_wp2
  go_loopw [12] (λi wr=>∃(q:Nat) (G':dW) (nw ex:Int) (ad:Nat) (s:St),q≤n∧i=.int .i64 q∧Hid (tO wr G' c nw ad ex s)∧Hid (ad≤q)∧Hid (G'.b=gb)∧Hid (zf wr G' c vb)∧Hid ((∀j∈G'.bl c.E,w.heap.size≤j)∧Off [] w wr∧w.heap.size≤vb)) (λi _=>n-(intOf i).toNat)
  case atStart=>exact⟨0,G,0,0,0,st0,Nat.zero_le _,rfl,Oq,jh (Nat.le_refl _),FX,Yg,HN4⟩
  case round=>
   clear Oq FX Yg HN4;obtain⟨q,G',nw,ex,ad,s,hq,rfl,HWr,HAd,HGb,Zw,I8⟩:=hrel
   by_cases hlt:q<n
   ·have hlt2:q<L.length:=by rw[HN.out];exact hlt
    have hr:=HS.out.below (I8.out.2.1.below (Nat.le_refl _) sj);have i0:=hr.ix q hlt2;obtain⟨c0,c1,c2,c3,c4⟩:=ZL hr hlt2;obtain⟨wu,wv,ww,wt⟩:=HWf.out q hlt2;rw[HN.out] at i0;obtain⟨x,hx⟩:=nE (L.getD q zF);rw[hx] at c0 c1 c2 c3 c4 wu wv ww wt;have hqi:(0:Int)≤q∧(q:Int)<n:=om;have HA:=jh (Dl HWr.out x.r.u x.r.v x.r.w x.r.t wu wv ww wt (oC HAd.out));have HT:=jh (zq HWr.out wt);rw[HGb.out] at HA HT;clear hr hlt2 hx wu wv ww wt
    cases hb:x.add with
    |true=>
     rw[hb] at c0;clear hb;go_wp2_with fail;apply mO HA;clear HA HT;rintro e w6 ⟨er,rfl,G6,nw6,ad6,ex6,s6,YL,akf,hb6,nk,_⟩;have HW6:=jh YL;have HF6:=jh (Zw.out.turn nk (by first |exact hb6 |exact hb6.trans HGb.out.symm));have HN6:=jh (show(∀j∈G6.bl c.E,w.heap.size≤j)∧Off [] w w6∧w.heap.size≤vb from⟨(rT I8.out.1 I8.out.2.1 nk).1,(rT I8.out.1 I8.out.2.1 nk).2,I8.out.2.2⟩);have Da:=jh (show G6.b=gb by first |exact hb6 |exact hb6.trans HGb.out);have HA6:=jh (show ad6≤q+1 by have:=HAd.out;omega);clear YL akf hb6 nk c0 c1 c2 c3 c4 i0;go_wp2;go_roundw
     case rel=>exact⟨q+1,G6,nw6,ex6,ad6,s6,om,by go_num,HW6,HA6,Da,HF6,HN6⟩
     case measure=>simp only[intOf];omega
    |false=>
     rw[hb] at c0;clear hb;go_wp2_with fail;apply mO HT;clear HA HT;rintro e w6 ⟨er,rfl,G6,nw6,ex6,s6,YL,hb6,nk,_⟩;have HW6:=jh YL;have HF6:=jh (Zw.out.turn nk (by first |exact hb6 |exact hb6.trans HGb.out.symm));have HN6:=jh (show(∀j∈G6.bl c.E,w.heap.size≤j)∧Off [] w w6∧w.heap.size≤vb from⟨(rT I8.out.1 I8.out.2.1 nk).1,(rT I8.out.1 I8.out.2.1 nk).2,I8.out.2.2⟩);have Da:=jh (show G6.b=gb by first |exact hb6 |exact hb6.trans HGb.out);have HA6:=jh (show ad≤q+1 by have:=HAd.out;omega);clear YL hb6 nk c0 c1 c2 c3 c4 i0;go_wp2;go_roundw
     case rel=>exact⟨q+1,G6,nw6,ex6,ad,s6,om,by go_num,HW6,HA6,Da,HF6,HN6⟩
     case measure=>simp only[intOf];omega
   ·obtain rfl:q=n:=om;have hwr:=HWr.out;obtain⟨f,hk,ws⟩:=hwr;have HLv:=jh (zw hk);rw[HGb.out] at HLv;have HWS:=jh ws;clear hk ws hlt;go_wp2_with fail;apply mO HLv;clear HLv;rintro e w7 ⟨lv,K0,rfl,hK0,hlv,o7⟩;obtain⟨la,aeA,LA,rfl,hlr⟩:=Q5 hlv;obtain⟨K1,hK1⟩:=nE K0.length
    have akx:K0.length≤100:=by
     have h1:=bH (l:=K0) (r:=List.range c.E) (hK0.nodup_iff.2 HWS.out.wn.st.und) λx hx=>List.mem_range.2 (HWS.out.wn.st.ult x (hK0.mem_iff.1 hx));rw[List.length_range] at h1;omega
    have U8:=jh hK0;have HLR:=jh hlr;have HKl:=jh hK1;have HW7:=jh (HWr.out.off o7);have HF7:=jh (Zw.out.off o7 sj);have HN7:=jh (show(∀j∈G'.bl c.E,w.heap.size≤j)∧Off [] w w7∧w.heap.size≤vb from⟨I8.out.1,I8.out.2.1.trans o7 sj,I8.out.2.2⟩);rw[hK1] at akx⊢;clear hK0 hlv hlr hK1 o7 HWr HAd Zw I8;have hKi:(K1:Int)≤100:=om;go_wp2_with fail;obtain⟨R,hR⟩:=nE (K0.map s.rc)
    have hRl:R.length=K1:=by rw[←hR,List.length_map,HKl.out]
    have FV:=jh (And.intro hR hRl);clear hR hRl
    go_loopw [13,15] (λv i wr=>∃p:Nat,p≤K1∧i=.int .i64 p∧Hid (lQ w7.heap.size v (R.take p) wr)∧Hid (Off [] w7 wr)) (λ_ i _=>K1-(intOf i).toNat)
    case atStart=>exact⟨0,Nat.zero_le _,rfl,jh (World.ownsRow_nil _ _ _ _),jh (Off.refl _ _)⟩
    case round=>
     obtain⟨p,hp,rfl,HV,HO⟩:=hrel
     by_cases hlt:p<K1
     ·have hlt2:p<K0.length:=by rw[HKl.out];exact hlt
      have hl:=HLR.out.below (HO.out.below (Nat.le_refl _) sj);have i0:=hl.ix p hlt2;rw[HKl.out] at i0;obtain⟨x,hx⟩:=nE (K0.getD p 0)
      have hrx:R.getD p qU=s.rc x:=by rw[←FV.out.1,u6 _ hlt2,hx]
      have HT:=jh (show R.take (p+1)=R.take p++[s.rc x] by rw[jF (by rw[FV.out.2];exact hlt),hrx])
      have k2:wr.cell? ⟨(LA p).block,(LA p).off+2,none⟩=some (.int .u64 (s.rc x).u):=by
       have:=hl.cell p hlt2 2 om;unfold xq kG at this;rw[hx] at this;exact this
      have k3:wr.cell? ⟨(LA p).block,(LA p).off+3,none⟩=some (.int .u64 (s.rc x).v):=by
       have:=hl.cell p hlt2 3 om;unfold xq kG at this;rw[hx] at this;exact this
      have k4:wr.cell? ⟨(LA p).block,(LA p).off+4,none⟩=some (.int .i64 (s.rc x).w):=by
       have:=hl.cell p hlt2 4 om;unfold xq kG at this;rw[hx] at this;exact this
      have k5:wr.cell? ⟨(LA p).block,(LA p).off+5,none⟩=some (.int .i64 (s.rc x).t):=by
       have:=hl.cell p hlt2 5 om;unfold xq kG at this;rw[hx] at this;exact this
      obtain⟨out,hout⟩:=nE (R.take p)
      have hol:out.length=p:=by rw[←hout,List.length_take,FV.out.2];omega
      rw[hout] at HV HT;have hown:=HV.out;unfold lQ at hown;rw[hol] at hown;have HOl:=jh hol;have hqi:(0:Int)≤p∧(p:Int)<K1:=om;have hln:(p+1)*32≤140737488355328:=om;have jL:p+1≤9223372036854775807:=om;have hsz:w7.heap.size≤wr.heap.size:=HO.out.size;obtain⟨r,hr⟩:=nE (s.rc x);rw[hr] at k2 k3 k4 k5 HT;clear hl hlt2 hx hrx hout hol hr
      go_wp2_with (at_builtin;refine push SF rfl _ _ rfl w7.heap.size _ _ _ hown rfl #[.int .u64 r.u,.int .u64 r.v,.int .i64 r.w,.int .i64 r.t] _ rfl rfl rfl (by simp[Value.oneCell']) hln jL hsz ?_;intro g6 Tf w6 hown6 EN hv6;refine Hid.out ?_)
      have Ug:=jh (show lQ w7.heap.size (.slice (some ⟨g6,0,none⟩) (p+1:Nat) Tf) (out++[r]) w6 by
       have h1:=DZ out r;rw[HOl.out] at h1
       unfold lQ;rw[List.length_append,List.length_singleton,HOl.out,h1];exact hown6)
      have nO:=jh (jW HO.out hown (Nat.le_refl _) EN);clear hown6 EN hv6 hown k2 k3 k4 k5 i0;refine jh ?_;go_wp2;go_roundw
      case rel=>exact⟨p+1,om,by go_num,by rw[HT.out];exact Ug,nO⟩
      case measure=>simp only[intOf];omega
     ·obtain rfl:p=K1:=om;have hV:=HV.out;rw[←FV.out.2,List.take_length] at hV;have agU:=jh hV;obtain⟨ra,ZV,RA,rfl,hrs⟩:=wU hV;have HRS:=jh hrs;have Nf:=jh (WR hrs (Nat.le_refl _) (by rw[FV.out.2];omega));have nN:=jh (HW7.out.off HO.out);have HF8:=jh (HF7.out.off HO.out sj);have HN8:=jh (show(∀j∈G'.bl c.E,w.heap.size≤j)∧Off [] w wr∧w.heap.size≤vb from⟨HN7.out.1,HN7.out.2.1.trans HO.out sj,HN7.out.2.2⟩);have alA:=jh HO.out.size;have ag5:=jh (And.intro HW7.out.lt (Row.lt HF7.out.1));clear hV HV hrs HO HW7 HF7 HN7 hlt;rw[FV.out.2] at Nf⊢;go_wp2_with fail;apply mO Nf;clear Nf;rintro e w9 ⟨vv,rfl,hvv,o9⟩;obtain⟨va,ZH,VA,rfl,_⟩:=vY hvv;have HVv:=jh hvv;obtain⟨idn,aaN⟩:=nE ((gW R).length);have al7:=jh aaN;rw[aaN] at HVv⊢;clear aaN;have hCl:=jh (Ji (HF8.out.off o9 sj) (nN.out.off o9) YV u θ);have HO9:=jh o9;clear hvv o9;go_wp2_with fail;apply mO hCl;clear hCl;rintro e OE ⟨aeL,o10,hres⟩;have alv:=jh aeL
      have aaL:∀j∈vb::G'.bl c.E,j<w7.heap.size:=λj hj=>by
       rcases List.mem_cons.1 hj with rfl |hj
       ·exact ag5.out.2
       ·exact ag5.out.1 j hj
      have ajP:w7.heap.size≤wr.heap.size:=alA.out;have YW:bE wr.heap.size (.slice va idn ZH) (gW R) OE:=aD HVv.out λj hj=>o10.block j (aF HVv.out hj) λc=>oD (aaL j c) (Bn HVv.out hj)
      have Y3:lQ w7.heap.size (.slice ra R.length ZV) R OE:=by
       have h9:lQ w7.heap.size (.slice ra R.length ZV) R w9:=aD agU.out λj hj=>HO9.out.block j (aF agU.out hj) sj;exact aD h9 λj hj=>o10.block j (aF h9 hj) λc=>oD (aaL j c) (Bn h9 hj)
      have Yd:=jh (show(∀j∈G'.bl c.E,w.heap.size≤j)∧Off [] w OE∧w.heap.size≤vb from⟨HN8.out.1,(HN8.out.2.1.trans HO9.out sj).trans o10 (λj hj=>.inr (by
       rcases List.mem_cons.1 hj with rfl |hj
       ·exact HN8.out.2.2
       ·exact HN8.out.1 j hj)),HN8.out.2.2⟩)
      have X7:=jh YW;have Zo:=jh Y3
      have Us:=jh (show u∈gW R↔s.has u by
       rw[(wF R).2 u,HWS.out.wn.st.CS u,←FV.out.1];constructor
       ·rintro⟨r,hr,e⟩;obtain⟨k,hk,rfl⟩:=List.mem_map.1 hr;exact⟨k,U8.out.mem_iff.1 hk,e⟩
       ·rintro⟨k,hk,e⟩
        exact⟨s.rc k,List.mem_map.2 ⟨k,U8.out.mem_iff.2 hk,rfl⟩,e⟩)
      have afa:(gW R).length≤1000000:=by have:=Ka R;rw[FV.out.2] at this;omega
      clear aeL o10 aaL ajP YW Y3
      rcases hres with⟨hno,rfl⟩ |⟨hyes,lo,hi,S,K,ajE,z,g,b,kcb,kfb,p,hvk,hp,FT,rfl⟩
      ·obtain⟨eT,BQ⟩:∃X,OE.alloc (.cells #[.int .u64 0,.int .i64 0] 49)=X:=⟨_,rfl⟩
       have UD:Off [] OE eT:=by rw[←BQ];exact(Off.refl _ _).alloc _
       have RI:bE wr.heap.size (.slice va idn ZH) (gW R) eT:=aD X7.out λj hj=>UD.block j (aF X7.out hj) sj
       have r11:Row eT OE.heap.size 2 (λi=>(#[Value.int .u64 0,.int .i64 0]:Array Value).getD i undef):=by
        rw[←BQ];exact Row.lit _ _ _ (Nat.le_refl _) lC
       have HKn:=jh (iT RI afa u);have X6:=jh BQ;have acA:=jh (Yd.out.2.1.trans UD sj);have hdec:decide (u∈gW R)=false:=dF λc=>hno (Us.out.1 c);have q0:eT.cell? ⟨OE.heap.size,0,none⟩=some (.int .u64 0):=r11.c 0;have q1:eT.cell? ⟨OE.heap.size,1,none⟩=some (.int .i64 0):=r11.c 1;rw[hdec] at HKn;clear UD RI r11 BQ hdec hno;go_wp2_with fail;rw[X6.out];apply mO HKn;clear HKn;rintro e eT ⟨rfl,rfl⟩;go_wp2_with fail;refine(HWk eT).out.mono ?_;rintro e fG ⟨rfl,CQ⟩;have FH:=jh (acA.out.trans CQ sj);clear CQ q0 q1;go_wp2;go_ret;exact⟨rfl,FH.out⟩
      ·obtain⟨f,hf⟩:=nE (gV (jq S s K) θ);obtain⟨gu,hgu⟩:=nE (aR S (f p));obtain⟨gs,hgs⟩:=nE (bO S.length f p);obtain⟨P,hP⟩:=nE (fP (bL R θ) u)
       have hmem:∀r,r∈R↔r∈K.map s.rc:=by
        rw[←FV.out.1];exact QS λk=>U8.out.mem_iff.trans hvk.kp.mem_iff.symm
       obtain⟨q1,q2,q3⟩:=hvk.Qm.part θ hp;rw[hf,FT] at q1 q2;rw[FT] at q3;obtain⟨m1,m2⟩:=Gn (GR hmem θ) u;rw[q1,hP,hgs] at m1;rw[q2,hP,hgu] at m2
       have hP0:P≠[]:=λe=>by
        rw[e] at m1
        have:(fP (bL (K.map s.rc) θ) u).length=0:=by rw[q1,hgs,←m1];rfl
        exact q3 (List.length_eq_zero_iff.1 this)
       have ae9:(gW R).length=S.length:=(MS hmem).1.trans hvk.Qm.ids.1
       have zZ:dR f:=by rw[←hf];exact pI _ _
       have hgr:y8 S (jq S s K) θ p=#[.int .u64 gu,.int .i64 gs]:=by unfold y8;rw[hf,hgu,hgs]
       rw[hgr];have HPt:=jh (And.intro m1 (And.intro m2 hP0));have U3:=jh hP;have HVK:=jh hvk;have HFl:=jh (And.intro hf (And.intro zZ ae9))
       have aqU:gs≤5000:=by
        rw[←hgs];have h1:=mK S.length f p;have h2:=hvk.Xn.nZ;omega
       obtain⟨eT,BQ⟩:∃X,OE.alloc (.cells #[.int .u64 gu,.int .i64 gs] 49)=X:=⟨_,rfl⟩
       have UD:Off [] OE eT:=by rw[←BQ];exact(Off.refl _ _).alloc _
       have RI:bE wr.heap.size (.slice va idn ZH) (gW R) eT:=aD X7.out λj hj=>UD.block j (aF X7.out hj) sj;obtain⟨gb2,aaQ⟩:=nE OE.heap.size
       have r11:Row eT gb2 2 (λi=>(#[Value.int .u64 gu,.int .i64 gs]:Array Value).getD i undef):=by
        rw[←BQ,←aaQ];exact Row.lit _ _ _ (Nat.le_refl _) lC
       have HKn:=jh (iT RI afa u);have X6:=jh BQ;have acA:=jh (Yd.out.2.1.trans UD sj);have agO:=jh r11;have Y2:lQ w7.heap.size (.slice ra R.length ZV) R eT:=aD Zo.out λj hj=>UD.block j (aF Zo.out hj) sj;obtain⟨ra2,amV,RA2,ajV,YO⟩:=wU Y2;cases ajV;have hdec:decide (u∈gW R)=true:=dP (Us.out.2 hyes);rw[hdec] at HKn;have HLi:=jh (MF YO (Nat.le_refl _) (by rw[FV.out.2];omega) θ);rw[FV.out.2] at HLi;have KR:=jh (alv.out.off UD);have Uf:=jh (hvk.off UD sj)
       have YU:(bL R θ).length≤100:=by
        have:=List.length_filter_le (λr:Rc=>decide (r.w≤θ)) R;rw[FV.out.2] at this;unfold bL;omega
       have YT:∀r∈bL R θ,-9223372036854775808≤r.t:=λr hr=>by
        have h1:=(List.mem_filter.1 hr).1;rw[←FV.out.1] at h1;obtain⟨k,hk,rfl⟩:=List.mem_map.1 h1;exact(HWS.out.wf k (U8.out.mem_iff.1 hk)).2.2.2.1
       have ag6:=jh (And.intro YU YT);clear UD RI r11 BQ hdec hyes hgr ae9 zZ hP0 m1 m2 q1 q2 q3 hmem hP hgs hgu hf hvk Y2 YO YU YT;go_wp2_with fail;rw[X6.out]
       try rw[aaQ]
       clear aaQ;apply mO HKn;clear HKn;rintro e eT ⟨rfl,rfl⟩;go_wp2_with fail;apply mO HLi;clear HLi;rintro e fG ⟨v12,rfl,hl12,CQ⟩;obtain⟨a12,c12,A12,rfl,YN⟩:=wU hl12;have agL:=jh (Ma YN (Nat.le_refl _) ag6.out.1 u (-9223372036854775808) ag6.out.2);have FH:=jh CQ;clear hl12 YN CQ;go_wp2_with fail;apply mO agL;clear agL;rintro e w13 ⟨v13,rfl,WW,o13⟩;rw[U3.out] at WW;have acz:=jh (FH.out.trans o13 sj);obtain⟨a13,c13,A13,rfl,_⟩:=vY WW
       have AF:=jh (fun(m:Nat)=>show Calls Tryz.prog 16 #[.slice a13 gs c13] (w13.drewN m) λe w'=>e=.returned (.int .u64 gu)∧w'=w13.drewN m from by
        have h1:=GQ (w:=w13.drewN m) (v:=.slice a13 P.length c13) (L:=P) (aD WW λg hg=>sj) (by rw[HPt.out.1];omega) HPt.out.2.2;rw[HPt.out.2.1,HPt.out.1] at h1
        exact h1)
       rw[HPt.out.1];have r13:=agO.out.off acz.out sj;have q0:w13.cell? ⟨gb2,0,none⟩=some (.int .u64 gu):=r13.c 0;have q1:w13.cell? ⟨gb2,1,none⟩=some (.int .i64 gs):=r13.c 1;clear WW o13 r13;go_wp2
       go_quiet ((go_at_call 16;exact Calls.quiet_of_same (AF.out _)))
       obtain⟨w14,h14⟩:=nE (w13.drewN nq);have I6:=jh (show Off [] eT w14 by rw[←h14];exact acz.out.drewN nq);rw[h14];have aho:=jh (OG (Uf.out.off I6.out sj) (KR.out.off I6.out) YV θ);clear q0 q1 h14;go_wp2_with fail;apply mO aho;clear aho;rintro e Yq ⟨o15,RH,vg,rfl,hown⟩;obtain⟨N,hN⟩:=nE S.length;rw[HFl.out.1,hN] at hown;obtain⟨Lb,hLb⟩:=nE (nL f N);rw[hLb] at hown;obtain⟨m,hm⟩:=nE Lb.length;rw[hm] at hown;obtain⟨ga,akD,GA,rfl,hrd,hge⟩:=JI abF hown
       have hN4:N≤4096:=by rw[←hN];exact RH.Xn.nZ
       have hmN:m≤N:=by rw[←hm,←hLb];exact Rj f N
       have AJ:=jh (And.intro hLb (And.intro hm hN));have Ya:=jh (And.intro hrd hge);have Zn:=jh RH;have agv:=jh ((KR.out.off I6.out).off o15);have ag0:=jh ((acA.out.trans I6.out sj).trans o15 sj)
       have Zu:=jh (show(∀j∈vb::G'.bl c.E,j<w14.heap.size)∧(∀j∈vb::G'.bl c.E,w.heap.size≤j) from by
        have h1:=(KR.out.off I6.out).lt;have h2:=Row.lt (Uf.out.off I6.out sj).row;refine⟨λj hj=>?_,λj hj=>?_⟩
        ·rcases List.mem_cons.1 hj with rfl |hj
         ·exact h2
         ·exact h1 j hj
        ·rcases List.mem_cons.1 hj with rfl |hj
         ·exact Yd.out.2.2
         ·exact Yd.out.1 j hj)
       have hbm:(0:Int)≤m∧(m:Int)≤4096:=om;clear o15 RH hown hLb hm hN hrd hge Uf KR AF FH acz I6 agO X6;go_wp2
       go_loopw [21,22] (λsv i wi=>∃(q:Nat) (sm:Nat),q≤m∧i=.int .i64 q∧sv=.int .i64 sm∧Hid (sm=Vk N f (Lb.take q))∧Hid (tO wi G' c nw ad ex s)∧Hid (nJ wi G' c vb (qc ad ex) s lo hi S K ajE z g b kcb kfb)∧Hid (∀j,w14.heap.size≤j→j<Yq.heap.size→wi.heap[j]?=Yq.heap[j]?)∧Hid (Off [] w wi)) (λ_ i _=>m-(intOf i).toNat)
       case atStart=>exact⟨0,0,Nat.zero_le _,rfl,rfl,jh rfl,agv,Zn,jh λ_ _ _=>rfl,ag0⟩
       case round=>
        clear agv Zn ag0;obtain⟨q,sm,hq,rfl,rfl,yM,HWi,HVi,HGi,HOi⟩:=hrel
        by_cases hlt:q<m
        ·obtain⟨a,ha⟩:=nE (Lb.getD q 0)
         obtain⟨haN,hfa⟩:a<N∧f a=a:=by
          have:=Rk (f:=f) (n:=N) (k:=q) (by rw[AJ.out.1,AJ.out.2.1];exact hlt);rw[AJ.out.1,ha] at this;exact this
         obtain⟨y,hy⟩:=nE (aR S a);obtain⟨sz,hsz⟩:=nE (bO N f a);have hrd:=Ya.out.1.far (w':=wr) (λi hi=>HGi.out _ (Ya.out.2 i hi) (Ya.out.1.lt i hi));have i0:=hrd.ix q hlt
         have c0:wr.cell? (GA q)=some (.int .u64 y):=by
          have:=hrd.cell q hlt 0 om;rw[add_zero] at this;unfold Jh at this;rw[if_pos rfl,ha,hy] at this;exact this
         have hup:=HVi.out.Qm.up
         have hyS:y∈S:=by rw[←hy];exact Ry (by rw[AJ.out.2.2];exact haN)
         have hhas:s.has y:=(St.dU.1 (HVi.out.sp.mem_iff.1 hyS));have hCl:=jh (Va HVi.out HWi.out YV y θ)
         have HSt:=jh (show Vk N f (Lb.take (q+1))=sm+sz by
          rw[List.take_succ_eq_append_getElem (by rw[AJ.out.2.1];exact hlt),DC,←yM.out]
          have:Lb[q]'(by rw[AJ.out.2.1];exact hlt)=a:=by
           rw[←ha,List.getD_eq_getElem?_getD,List.getElem?_eq_getElem (by rw[AJ.out.2.1];exact hlt)];rfl
          rw[this,hsz])
         have aqE:sm≤20000000:=by
          have h1:=ZO N f (Lb.take q);have h2:(Lb.take q).length*N≤4096*4096:=Nat.mul_le_mul (by rw[List.length_take];omega) hN4;rw[yM.out];omega
         have WY:sz≤5000:=by
          have:=mK N f a;rw[hsz] at this;omega
         have Jd:=jh (And.intro ha (And.intro hy (And.intro hsz (And.intro haN (And.intro hfa (And.intro hup hhas))))));have hqi:(0:Int)≤q∧(q:Int)<m:=om;clear hrd ha hy hsz haN hfa hup hyS hhas HWi;go_wp2_with fail;apply mO hCl;clear hCl;rintro e w16 ⟨hw16,o16,⟨hno,_⟩ |⟨_,p2,YM,hp2,aeP,rfl⟩⟩
         ·exact absurd Jd.out.2.2.2.2.2.2 hno
         have hpa:p2=a:=oz Jd.out.2.2.2.2.2.1 hp2 (by rw[AJ.out.2.2];exact Jd.out.2.2.2.1) (aeP.trans Jd.out.2.1.symm)
         have hgr:y8 S (jq S s K) θ p2=#[.int .u64 y,.int .i64 sz]:=by
          unfold y8;rw[HFl.out.1,hpa,Jd.out.2.2.2.2.1,Jd.out.2.1,AJ.out.2.2,Jd.out.2.2.1]
         rw[hgr];obtain⟨nb,hnb⟩:=nE w16.heap.size;obtain⟨Ll,WU⟩:∃X,w16.alloc (.cells #[.int .u64 y,.int .i64 sz] 49)=X:=⟨_,rfl⟩
         have o17:Off [] w16 Ll:=by rw[←WU];exact(Off.refl _ _).alloc _
         have r17:Row Ll nb 2 (λi=>(#[Value.int .u64 y,.int .i64 sz]:Array Value).getD i undef):=by
          rw[←WU,←hnb];exact Row.lit _ _ _ (Nat.le_refl _) lC
         have acP:=jh (show ∀j,w14.heap.size≤j→j<Yq.heap.size→Ll.heap[j]?=Yq.heap[j]? from λj h1 h2=>by
          have hj1:j<wr.heap.size:=by
           have:=HGi.out j h1 h2;rw[Array.getElem?_eq_getElem h2] at this;exact(Array.getElem?_eq_some_iff.1 this).1
          exact(o17.block j (Nat.lt_of_lt_of_le hj1 o16.size) sj).trans ((o16.block j hj1 λc=>oC (Zu.out.1 j c)).trans (HGi.out j h1 h2)))
         have agu:=jh (hw16.off o17);have agB:=jh (YM.off o17 sj);have agZ:=jh ((HOi.out.trans o16 λj hj=>.inr (Zu.out.2 j hj)).trans o17 sj);have hrd:=Ya.out.1.far (w':=Ll) (λi hi=>acP.out _ (Ya.out.2 i hi) (Ya.out.1.lt i hi))
         have d0:Ll.cell? (GA q)=some (.int .u64 y):=by
          have:=hrd.cell q hlt 0 om;rw[add_zero] at this;unfold Jh at this;rw[if_pos rfl,Jd.out.1,Jd.out.2.1] at this;exact this
         have d1:Ll.cell? ⟨(GA q).block,(GA q).off+1,none⟩=some (.int .i64 sz):=by
          have:=hrd.cell q hlt 1 om;unfold Jh at this;rw[if_neg (by decide),Jd.out.1,AJ.out.2.2,Jd.out.2.2.1] at this;exact this
         have k0:Ll.cell? ⟨nb,0,none⟩=some (.int .u64 y):=r17.c 0;have k1:Ll.cell? ⟨nb,1,none⟩=some (.int .i64 sz):=r17.c 1;have Zm:=jh WU;have ag1:=jh hnb;have HRx:=jh hrd;clear hw16 o16 YM hp2 aeP hpa hgr o17 r17 hrd c0 WU hnb HGi HVi HOi
         rcases Nat.eq_zero_or_pos q with h0 |h0
         ·have g1:decide ((q:Int)>0)=false:=dF om;have g2:decide ((0:Int)<q)=false:=dF om;have g3:decide (0<q)=false:=dF om;have H0:=jh h0;clear h0;go_wp2_with fail;rw[Zm.out]
          try rw[ag1.out]
          go_quiet (fail)
          obtain⟨ZG,h18⟩:=nE (Ll.drewN nq)
          have VW:Off [] Ll ZG:=by rw[←h18];exact(Off.refl _ _).drewN nq
          have s1:ZG.cell? ⟨(GA q).block,(GA q).off+1,none⟩=some (.int .i64 sz):=by rw[←h18];exact d1
          have ach:=jh (agu.out.off VW);have aco:=jh (agB.out.off VW sj);have acy:=jh (agZ.out.trans VW sj);have acO:=jh (show ∀j,w14.heap.size≤j→j<Yq.heap.size→ZG.heap[j]?=Yq.heap[j]? by rw[←h18];intro j h1 h2;have:=acP.out j h1 h2;simpa using this);rw[h18];have hbs:(0:Int)≤sm∧(sm:Int)≤20000000:=om;have hbz:(0:Int)≤sz∧(sz:Int)≤5000:=om;clear d0 d1 k0 k1 VW h18 g1 g2 g3;go_wp2;go_roundw
          case rel=>exact⟨q+1,sm+sz,om,by go_num,by go_num,jh HSt.out.symm,ach,aco,acO,acy⟩
          case measure=>simp only[intOf];omega
         ·obtain⟨k,hk⟩:∃k,k+1=q:=⟨q-1,om⟩;have hkm:k<m:=om;obtain⟨a',ha'⟩:=nE (Lb.getD k 0);obtain⟨y',hy'⟩:=nE (aR S a')
          have i1:∀w',(Instr.indexAt 56 (.slice ga m akD) (.int .i64 ((q:Int)-1))).run Tryz.prog w'=.ok (.pointer (some (GA k))) w':=by
           have:=HRx.out.ix k hkm
           rwa [show((k:Nat):Int)=(q:Int)-1 by omega] at this
          have e0:Ll.cell? (GA k)=some (.int .u64 y'):=by
           have:=HRx.out.cell k hkm 0 om;rw[add_zero] at this;unfold Jh at this;rw[if_pos rfl,ha',hy'] at this;exact this
          have hlt2:y'<y:=by
           rw[←hy',←Jd.out.2.1];refine pK Jd.out.2.2.2.2.2.1 ?_ (by rw[AJ.out.2.2];exact Jd.out.2.2.2.1);rw[←ha',←Jd.out.1,←hk,←AJ.out.1];exact Xq (by show k+1<(nL f N).length;rw[AJ.out.1,AJ.out.2.1];omega)
          have g1:decide ((q:Int)>0)=true:=dP om;have g2:decide ((0:Int)<q)=true:=dP om;have g3:decide (0<q)=true:=dP om;have g4:decide (y'≥y)=false:=dF om;have g5:decide (y≤y')=false:=dF om;have hqk:(0:Int)≤(q:Int)-1∧(q:Int)-1<m:=om;have H0:=jh h0;clear h0 hk hkm ha' hy' hlt2;go_wp2_with fail;rw[Zm.out]
          try rw[ag1.out]
          go_quiet (fail)
          obtain⟨ZG,h18⟩:=nE (Ll.drewN nq)
          have VW:Off [] Ll ZG:=by rw[←h18];exact(Off.refl _ _).drewN nq
          have s1:ZG.cell? ⟨(GA q).block,(GA q).off+1,none⟩=some (.int .i64 sz):=by rw[←h18];exact d1
          have ach:=jh (agu.out.off VW);have aco:=jh (agB.out.off VW sj);have acy:=jh (agZ.out.trans VW sj);have acO:=jh (show ∀j,w14.heap.size≤j→j<Yq.heap.size→ZG.heap[j]?=Yq.heap[j]? by rw[←h18];intro j h1 h2;have:=acP.out j h1 h2;simpa using this);rw[h18];have hbs:(0:Int)≤sm∧(sm:Int)≤20000000:=om;have hbz:(0:Int)≤sz∧(sz:Int)≤5000:=om;clear d0 d1 k0 k1 VW h18 g1 g2 g3;go_wp2;go_roundw
          case rel=>exact⟨q+1,sm+sz,om,by go_num,by go_num,jh HSt.out.symm,ach,aco,acO,acy⟩
          case measure=>simp only[intOf];omega
        ·obtain rfl:q=m:=om
         have hsm:sm=N:=by
          rw[yM.out,←AJ.out.2.1,List.take_length,←AJ.out.1];exact ZN HFl.out.2.1
         have afb:idn=N:=by rw[←al7.out,HFl.out.2.2,AJ.out.2.2]
         rw[hsm,afb];have HBu:=jh (Dq HVi.out.row);clear hsm afb;go_wp2_with fail;apply mO HBu;clear HBu;rintro e wi ⟨rfl,rfl⟩;go_wp2_with fail;refine(HWk wi).out.mono ?_;rintro e w20 ⟨rfl,o20⟩;have alJ:=jh (HOi.out.trans o20 sj);clear o20;go_wp2;go_ret;exact⟨rfl,alJ.out⟩
theorem adR (W E V D u θ:Int) (hS:SS w w.heap.size (.slice sa L.length cap) L A) (hm:L.length≤9223372036854775807) (hwf:ab2 L) (hW:dM W):
  Calls Tryz.prog 3 #[.agg #[.int .i64 W,.int .i64 E,.int .i64 V,.int .i64 D],.slice sa L.length cap,.int .u64 u,.int .i64 θ] w λe w'=>e=.returned (.bool true)∧Below w.heap.size w w':=
 (Vf W E V D u θ hS hm hwf hW).mono λ_ _ ⟨h1,h2⟩=>⟨h1,h2.below (Nat.le_refl _) sj⟩
end
end Go.Proofs.YtpaeogglppampaaGreat
