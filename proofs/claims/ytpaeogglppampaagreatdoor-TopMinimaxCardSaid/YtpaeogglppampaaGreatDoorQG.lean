/- Lemmas of the proof. Conditions: as each one states. -/
import Derived.Test.YtpaeogglppampaaGreatDoorQt
import Derived.Test.YtpaeogglppampaaGreatDoorQF
set_option maxRecDepth 100000
set_option maxHeartbeats 16000000
namespace Go.Proofs.YtpaeogglppampaaGreatDoor
open Go.RowKit
theorem vQ.len {ex:Nat→Int} {now:Int}:∀{xs U:List Nat},vQ ex now U xs→xs.length≤U.length
 |[],_,_=>Nat.zero_le _
 |x::xs,U,⟨⟨h1,_⟩,h2⟩=>by
  have:=vQ.len h2;rw[List.length_erase_of_mem h1] at this;have:=List.length_pos_of_mem h1;simp only[List.length_cons];omega
theorem Aa {l:List Nat} {i:Nat} (h:i<l.length):l.drop i=l.getD i 0::l.drop (i+1):=by
 rw[List.drop_eq_getElem_cons h];simp[List.getD,h]
theorem zu {l:List Nat} {i:Nat} (h:i<l.length) (U:List Nat):(l.take (i+1)).foldl List.erase U=((l.take i).foldl List.erase U).erase (l.getD i 0):=by
 rw[jM h,List.foldl_append];rfl
structure TkI (w0:World) (G:dX) (c:Cf) (t:Int) (ad:Nat) (s:St) (xs:List Nat) (v:Value) (N i:Nat) (G':dX) (JM:Int) (s':St) (f':Fs) (wr:World):Prop where
 k:fM wr G' c t ad JM s' s.ex (xs.foldl List.erase s.U) f'
 ok:y7 c.E c.V s' f'
 rc:s'.rc=s.rc∧s'.ex=s.ex
 U:s'.U=(xs.take i).foldl List.erase s.U
 dr:vQ s.ex t s'.U (xs.drop i)
 b:G'.b=G.b
 bo:Bo (G.bl c.E) (G'.bl c.E) w0 wr
 row:iG N v xs wr
 ap:∀g,v.ownBlock=some g→g∉G'.bl c.E
section
variable {w w0 wr w1 w2:World} {G G':dX} {c:Cf} {nw t ex JM:Int} {ad:Nat} {s s' s2:St} {ef:Nat→Int} {U xs:List Nat} {f f':Fs} {v:Value} {N i x:Nat}
theorem gH (h:fM w G c nw ad ex s ef U f):
  Calls Tryz.prog 15 #[.pointer (some ⟨G.b,0,none⟩)] w λe w'=>e=.returned (.bool true)∧w'=w:=by
 have c4:=h.c4;clear h;go_in;go_wp2;go_ret;exact⟨rfl,rfl⟩
theorem TkI.next (h:TkI w0 G c t ad s xs v N i G' JM s' f' wr) (hi:i<xs.length) (hx:xs.getD i 0=x):x∈s'.U∧f'.lv x=true∧(∀k,f'.lv k=true→k=x∨f'.bf x k)∧vQ s.ex t (s'.U.erase x) (xs.drop (i+1))∧x<c.E:=by
 have hd:=h.dr;rw[Aa hi,hx] at hd;obtain⟨⟨h1,_,h3⟩,h4⟩:=hd;refine⟨h1,(h.ok.lv x).2 h1,λk hk=>?_,h4,h.ok.st.ult x h1⟩;have hk':=(h.ok.lv k).1 hk;refine(h3 k hk').imp id λe=>?_;unfold Fs.bf;rw[h.ok.fx x h1,h.ok.fx k hk',h.rc.2];exact e
theorem TkI.rowOf (h:TkI w0 G c t ad s xs v N i G' JM s' f' wr) {B:List Nat} (bo:Bo (G'.bl c.E) B wr w1):iG N v xs w1∧∀g,v.ownBlock=some g→g∉B:=by
 have hlt:∀g,v.ownBlock=some g→g<wr.heap.size:=λg hg=>aN (show wr.ownsRow N _ 1 v xs.length _ from h.row) hg;refine⟨aG (show wr.ownsRow N _ 1 v xs.length _ from h.row) λg hg=>bo.off.block g (hlt g hg) (h.ap g hg),λg hg c=>?_⟩
 rcases bo.fQ g c with e |e
 ·exact h.ap g hg e
 ·have:=hlt g hg;omega
theorem zi (h:qW w G c nw ad ex s) (ht:dR t):
  Calls Tryz.prog 8 #[.pointer (some ⟨G.b,0,none⟩),.int .i64 t] w λe w'=>∃er,e=.returned (.int .i64 er)∧∃G' nw' JM s',qW w' G' c nw' ad JM s'∧G'.b=G.b∧Bo (G.bl c.E) (G'.bl c.E) w w'∧(J2 c.win nw t=0∧er=0∧nw'=t∧TkR s s' t∨J2 c.win nw t≠0∧s'=s):=by
 obtain⟨f,k,ws⟩:=h;have HV:=jh (gH k);have c4:=k.c4;have HA:=jh (MZ k.ck ws.cf.win ht);have K:=jh k;have WS:=jh ws;clear k ws;go_in;go_wp2_with fail;apply mO HV;rintro e w1 ⟨rfl,rfl⟩;go_wp2_with fail;apply mO HA;rintro e w2 ⟨rfl,hw⟩;clear HV HA c4;obtain⟨er,her⟩:=nE (J2 c.win nw t);rw[her] at hw⊢;have HER:=jh her;clear her
 rcases hw with⟨rfl,rfl⟩ |⟨hz,rfl⟩
 ·obtain⟨k2,CF⟩:=K.out.ab4 t;obtain⟨W2,hW2⟩:=nE (w1.setCell ⟨G.cb,1,none⟩ (.int .i64 t));rw[hW2] at k2 CF⊢;have c6:=k2.c6;obtain⟨L,sc,hL⟩:=k2.sc;have HD:=jh (ED (t:=t) sc (oC WS.out.cf.E) WS.out.wn.st.und hL);have K2:=jh k2;have B2:=jh CF;clear k2 CF sc hL hW2;go_wp2_with fail;apply mO HD;rintro e w3 ⟨v,xs,Wi,L',rfl,hO,hgn,hdr,sc3,hL3,Ai⟩;obtain⟨k3,ad4⟩:=K2.out.Xf ⟨L',sc3,hL3⟩ Ai
  have hap:∀g,v.ownBlock=some g→g∉({ G with eh:=Wi }:dX).bl c.E:=λg hg c1=>by
   obtain⟨j,hj,hx⟩:=bP.1 c1
   have hnew:W2.heap.size≤g:=by
    rcases hO.2 with⟨h0,_⟩ |⟨g',cap,cur,e1,hb,_⟩
    ·rw[h0] at hg;cases hg
    ·rw[e1] at hg
     have:g'=g:=by simpa [Value.ownBlock] using hg
     omega
   match j,hx with
   |0,hx=>have:=K2.out.tT 0 g hx;omega
   |1,hx=>have:=K2.out.tT 1 g hx;omega
   |2,hx=>have:=K2.out.tT 2 g hx;omega
   |3,hx=>exact hgn g hg hx
   |4,hx=>have:=K2.out.tT 4 g hx;omega
  have I0:TkI w1 G c t ad s xs v W2.heap.size 0 { G with eh:=Wi } ex s f w3:=⟨k3,WS.out.wn,⟨rfl,rfl⟩,rfl,hdr,rfl,B2.out.trans ad4,hO,hap⟩
  have hxl:xs.length≤16384:=by
   have h1:=hdr.len;have h2:=jT WS.out.wn.st.und WS.out.wn.st.ult;have:=WS.out.cf.E;omega
  obtain⟨a,cap,A0,rfl,ahP⟩:=jf hO;obtain⟨n,hn⟩:=nE xs.length;have HI0:=jh I0;have HN:=jh hn;have HDR:=jh hdr;rw[hn] at hxl⊢;clear hO hgn hdr sc3 hL3 Ai k3 ad4 hap I0 ahP hn c6 HD K2 B2;go_wp2
  go_loopg [27] n (λQ iv wr=>∃(i:Nat) (G':dX) (JM:Int) (s':St) (f':Fs),Q+i=n∧iv=.int .i64 i∧Hid (TkI w1 G c t ad s xs (.slice a n cap) W2.heap.size i G' JM s' f' wr))
  case atStart=>exact⟨0,_,_,_,_,rfl,rfl,by rw[HN.out] at HI0;exact HI0⟩
  case round=>
   clear HI0;obtain⟨i,G',JM,s',f',hQ,rfl,HI⟩:=hrel
   by_cases hlt:i<n
   ·have d1:decide ((i:Int)<n)=true:=dP om;have d2:decide (i<n)=true:=dP hlt;obtain⟨j,hj⟩:=nE (i+1);have wj:(i:Int)+1=(j:Int):=om;have bi:(0:Int)≤i∧(i:Int)<n∧(n:Int)≤16384∧(0:Int)≤j∧(j:Int)≤16384:=om
    have hil:i<xs.length:=by rw[HN.out];exact hlt
    obtain⟨x,hx⟩:=nE (xs.getD i 0);obtain⟨x1,x2,x3,x4,x5⟩:=HI.out.next hil hx;obtain⟨a',c',A',e,hrd⟩:=jf HI.out.row;have ix:=hrd.ix i hil;have cl:=hrd.cell i hil 0 om;rw[HN.out] at e ix
    obtain⟨rfl,rfl⟩:a=a'∧cap=c':=by cases e;exact⟨rfl,rfl⟩
    rw[add_zero] at cl
    have cl':wr.cell? (A' i)=some (.int .i64 x):=by rw[cl];unfold nums;rw[lM,hx]
    have c7:=HI.out.k.c7;rw[HI.out.b] at c7;have hSV:c.E+c.V≤65535:=oD WS.out.cf.E WS.out.cf.V;have HE:=jh (EB HI.out.k.fo HI.out.ok.fo x2 x3 hSV);have HX:=jh (And.intro x1 (And.intro x4 (And.intro hil hx)));have HJ:=jh hj;have HQ:=jh hQ;clear e hrd cl x1 x2 x3 x4 x5 hil hx hj hQ hlt hSV;go_wp2_with fail;apply mO HE;rintro e w4 ⟨⟨v4,rfl⟩,F4,m4,ok4,hb4,Cz⟩;obtain⟨k4,b4⟩:=HI.out.k.Ja m4 hb4 Cz;obtain⟨G4,hG4⟩:∃G4,({ G' with ff:=F4 }:dX)=G4:=⟨_,rfl⟩;rw[hG4] at k4 b4
    have ZB:G4.b=G.b:=by rw[←hG4];exact HI.out.b
    have c5:=k4.c5;rw[ZB] at c5;obtain⟨N,bg,inc,Xe⟩:=k4.st
    have HR:=jh (Dh Xe HX.out.1 λr hr=>by
     have hm:r∈s.U:=by
      rw[HI.out.U] at hr
      have hsub:∀(ys:List Nat) (V:List Nat),r∈ys.foldl List.erase V→r∈V:=by
       intro ys
       induction ys with
       |nil=>exact λ_ h=>h
       |cons y ys ih=>exact λV h=>List.mem_of_mem_erase (ih _ h)
      exact hsub _ _ hr
     have:=WS.out.wf r hm;rw[HI.out.rc.1]
     exact⟨this.1,this.2.1⟩)
    have HK4:=jh k4;have HB4:=jh b4;have HG4:=jh ZB;have jw:=jh ok4;clear m4 ok4 hb4 Cz k4 b4 hG4 ZB Xe HE c7;go_wp2_with fail;apply mO HR;rintro e w5 ⟨⟨v5,rfl⟩,sf5,s5,acO,st5,hb5,Ub,rr⟩;obtain⟨k5,b5⟩:=HK4.out.setSt ⟨N,bg,acO,st5⟩ hb5 Ub;obtain⟨G5,hG5⟩:∃G5,({ G4 with sf:=sf5 }:dX)=G5:=⟨_,rfl⟩;rw[hG5] at k5 b5
    have ZA:G5.b=G.b:=by rw[←hG5];exact HG4.out
    have c9:=k5.c9;have f9:=k5.fz 9;obtain⟨y,hy⟩:=nE (IntKind.u64.wrap (JM+1));obtain⟨k6,b6⟩:=k5.ab2 y;rw[ZA] at c9 f9 k6 b6;have HK6:=jh k6;have CP:=jh ((HB4.out.trans b5).trans b6);have HG5:=jh ZA;have Ns:=jh (And.intro rr st5.ok);clear st5 hb5 Ub rr k5 b5 hG5 ZA k6 b6 HR c5;go_wp2
    go_roundg (n-j)
    case measure=>have:=HJ.out;have:=HQ.out;omega
    case rel=>
     have hU5:s5.U=s'.U.erase x:=Ns.out.1.U;obtain⟨q1,q2⟩:=HI.out.rowOf CP.out;refine⟨j,G5,y,s5,f'.rem x,oC HJ.out,rfl,jh ⟨HK6.out,HI.out.ok.rem Ns.out.1 Ns.out.2 jw.out,⟨Ns.out.1.rc.1.trans HI.out.rc.1,Ns.out.1.rc.2.trans HI.out.rc.2⟩,?_,?_,HG5.out,HI.out.bo.trans CP.out,q1,q2⟩⟩
     ·rw[←HJ.out,zu HX.out.2.2.1,HX.out.2.2.2,←HI.out.U];exact hU5
     ·rw[hU5,←HJ.out];exact HX.out.2.1
   ·have d1:decide ((i:Int)<n)=false:=dF om;have d2:decide (i<n)=false:=dF hlt;obtain rfl:i=n:=om;have HL:=jh hlt;clear hlt;go_wp2;go_ret;have I:=HI.out;have ht:xs.take i=xs:=List.take_of_length_le (by rw[HN.out];exact Nat.le_refl _);have hU:=I.U;rw[ht] at hU;have hdr:=I.dr;have h0:=I.k;rw[←hU,←I.rc.2] at h0;refine⟨0,rfl,G',t,JM,s',⟨f',h0,⟨WS.out.cf,I.ok,λk hk=>?_⟩⟩,I.b,I.bo,.inl ⟨HER.out,rfl,rfl,⟨λk=>?_,I.rc.1,I.rc.2⟩⟩⟩
    ·have hk':k∈s.U:=by
      have:=(HDR.out.mem WS.out.wn.st.und k).1 (by rw[←hU];exact hk);exact this.1
     rw[I.rc.1];exact WS.out.wf k hk'
    ·rw[hU];exact HDR.out.mem WS.out.wn.st.und k
 ·have d1:((er:Int)==0)=false:=by simp;exact hz
  have HZ:=jh hz;clear hz;go_wp2;go_ret;exact⟨er,rfl,G,nw,ex,s,⟨f,K.out,WS.out⟩,rfl,Bo.refl _ _,.inr ⟨by rw[HER.out];exact HZ.out,rfl⟩⟩
end
end Go.Proofs.YtpaeogglppampaaGreatDoor
