/- Lemmas of the proof. Conditions: as each one states. -/
import Derived.Test.YtpaeogglppampaaGreatDoorQp
import Derived.Test.YtpaeogglppampaaGreatDoorQA
set_option maxRecDepth 100000
set_option maxHeartbeats 16000000
namespace Go.Proofs.YtpaeogglppampaaGreatDoor
open Go.RowKit
section
open Go.Shelf
def Vn:Value→Nat
 |.slice _ n _=>n
 |_=>0
theorem Off.grown {S:List Nat} {a b c:World} (h:Off S a b) {row:Option Nat} (hg:b.grownBy c row) (hr:∀r,row=some r→a.heap.size≤r):Off S a c:=
 ⟨hg.os.trans h.os,hg.tape.trans h.tape,hg.output.trans h.output,Nat.le_trans h.size hg.size,λk hk hn=>(hg.block k (Nat.lt_of_lt_of_le hk h.size) λe=>oC (hr k e.symm)).trans (h.block k hk hn)⟩
def SpK (n:Nat):Nat→Sg→Nat→Sg→Prop
 |0,σ,i,τ=>side σ i=none∧(σ i).up≤n∧σ=τ
 |k+1,σ,i,τ=>(∃s,side σ i=some s∧side σ (σ i).up=none∧ni n σ i s∧SpK n k (fB σ i s) i τ)∨
   (∃s,side σ i=some s∧side σ (σ i).up=some s∧ni n σ (σ i).up s∧ni n (fB σ (σ i).up s) i s∧SpK n k (fB (fB σ (σ i).up s) i s) i τ)∨
   (∃s,side σ i=some s∧side σ (σ i).up=some (!s)∧ni n σ i s∧ni n (fB σ i s) i (!s)∧SpK n k (fB (fB σ i s) i (!s)) i τ)
theorem Td.toK {n i:Nat} {σ τ:Sg} (h:Td n σ i τ):∃k,SpK n k σ i τ:=by
 induction h with
 |done h hu=>exact⟨0,h,hu,rfl⟩
 |one h k r _ ih=>obtain⟨m,hm⟩:=ih;exact⟨m+1,.inl ⟨_,h,k,r,hm⟩⟩
 |zig h k r q _ ih=>obtain⟨m,hm⟩:=ih;exact⟨m+1,.inr (.inl ⟨_,h,k,r,q,hm⟩)⟩
 |zag h k r q _ ih=>obtain⟨m,hm⟩:=ih;exact⟨m+1,.inr (.inr ⟨_,h,k,r,q,hm⟩)⟩
structure XJ (w:World) (b g D:Nat) (wr:World):Prop where
 bx:Boxed wr w.heap.size 122 (.pointer (some ⟨b,0,none⟩))
 of:Off [g] w wr
 dm:wr.heap[D]?=some (.deferred (some []))
 lt:g<w.heap.size∧w.heap.size<D
theorem XJ.dn {w wr:World} {b g D:Nat} (h:XJ w b g D wr) (q:Nat):XJ w b g D (wr.drewN q):=⟨h.bx,h.of.drewN q,h.dm,h.lt⟩
theorem XJ.go {w wr w':World} {b g D:Nat} (h:XJ w b g D wr) (o:Off [g] wr w'):XJ w b g D w':=
 ⟨(o.block _ h.bx.lt (by have:=h.lt;simp;omega)).trans h.bx,h.of.trans o (λq hq=>.inl hq),(o.block _ (Array.getElem?_eq_some_iff.1 h.dm).1 (by have:=h.lt;simp;omega)).trans h.dm,h.lt⟩
theorem Qa {w:World} {base n:Nat} {e:TypeId} {v:Value} {xs:List Value} (h:w.ownsRow base e 1 v n xs):Vn v=n:=by
 rcases h.2 with⟨h0,rfl⟩ |⟨g',cap',cur,h1,_⟩
 ·subst h0;rfl
 ·subst h1;rfl
section
variable {w:World} {b g n cap i:Nat} {σ σ':Sg} {li tt:Nat→Int} {ed:Int}
theorem wX (h:bT w b g n cap σ li tt ed) (hi:i≤n) (hn:n≤1000000) (hS:Spl n σ i σ'):
  Calls Tryz.prog 150 #[.pointer (some ⟨b,0,none⟩),.int .i64 (i:Nat)] w λe w'=>e=.returned (.tuple #[])∧(∃iY,bT w' b g n cap σ' li iY ed)∧Off [g] w w':=by
 refine(callsIn_wide (n:=8)).1 ?_;refine callsIn_of_wp_marks Tryz.func150 rfl trivial ?_ rfl;simp only[Tryz.ntmps150,List.size_toArray,List.length_cons,List.length_nil,Nat.reduceAdd,Nat.reduceSub,Array.replicate_succ,Array.replicate_zero,List.push_toArray,List.append_toArray,List.nil_append,List.cons_append];refine wpIn_wide.2 ?_;obtain⟨N,hN⟩:=nE (n+1);obtain⟨L,ρ,hC,hLn,hLb,hP,hR⟩:=hS;have HL:=jh h;have HC:=jh hC;have HP:=jh hP;have HR:=jh hR;have HN:=jh hN;clear h hC hP hR hN;go_wp2
 go_step3
 go_wp2
 go_step3
 go_wp2_with fail;obtain⟨w1,hw1⟩:∃x,w.alloc (.cells #[.pointer (some ⟨b,0,none⟩)] 122)=x:=⟨_,rfl⟩
 have hB1:Below w.heap.size w w1:=by rw[←hw1];exact(Below.refl _ _).alloc (Nat.le_refl _) _
 have hz1:w1.heap.size=w.heap.size+1:=by rw[←hw1];simp
 have hX1:Boxed w1 w.heap.size 122 (.pointer (some ⟨b,0,none⟩)):=by rw[←hw1];exact Boxed.new w _ _
 have hL1:bT w1 b g n cap σ li tt ed:=HL.out.keep λj hj=>hB1.block j (HL.out.lt j hj);rw[hw1];have HB1:=jh hB1;have NQ:=jh hX1;have mQ:=jh hL1;have HZ1:=jh hz1;have HLb:=jh hLb;clear hw1 hB1 hz1 hX1 hL1 hLb
 go_loopw [4,5] (λpv jv wr=>∃(dn rs:List Nat) (j:Nat),jv=.int .i64 j∧Hid (L=dn++rs)∧Hid (W9 σ j rs)∧Hid (iG w1.heap.size pv dn wr)∧Hid (Below w1.heap.size w1 wr)) (λpv _ _=>L.length-Vn pv)
 case atStart=>exact⟨[],L,i,rfl,jh rfl,HC,jh (World.ownsRow_nil _ _ _ _),jh (Below.refl _ _)⟩
 case round=>
  obtain⟨dn,rs,j,rfl,HLr,WV,HOw,HB⟩:=hrel;have hOw:=HOw.out;have hsz:=HB.out.size
  have hjr:j∈rs:=by cases WV.out<;>simp
  have hjL:j∈L:=by rw[HLr.out];simp[hjr]
  have hlen:dn.length+rs.length=L.length:=by rw[HLr.out,List.length_append]
  have hrs:0<rs.length:=List.length_pos_of_mem hjr;obtain⟨hjn,hju⟩:=HLb.out j hjL;unfold iG at hOw;have HJ:=jh (And.intro hjn hju);have HLen:=jh (And.intro hlen hrs);clear hjr hjL hjn hju hlen hrs;have hdl:dn.length≤1000000:=oC HLen.out;have HlV:=jh (Qa hOw)
  go_wp2_with (at_builtin;refine push Cw rfl _ _ rfl w1.heap.size _ _ _ hOw rfl #[.int .i64 j] _ rfl rfl rfl (by simp[Value.oneCell']) om om hsz ?_;intro g2 cp2 w5 hown5 hg5 hv5;refine Hid.out ?_)
  have hb5:Below w1.heap.size w1 w5:=HB.out.grown hg5 hsz (λk e=>(hOw.lt k e).1);have nk:Hid (iG w1.heap.size (.slice (some ⟨g2,0,none⟩) (dn.length+1:Nat) cp2) (dn++[j]) w5):=jh (by unfold iG;rw[jW,List.map_append,List.length_append];exact hown5);have hL5:bT w5 b g n cap σ li tt ed:=mQ.out.keep λq hq=>hb5.block q (mQ.out.lt q hq);have XP:=jh (show Boxed w5 w.heap.size 122 (.pointer (some ⟨b,0,none⟩)) from(hb5.block _ NQ.out.lt).trans NQ.out);have HS:=jh (aM hL5 HJ.out.1 HJ.out.2);have vG:=jh hL5;have HB5:=jh hb5;have cx:=XP.out.cell;clear hown5 hg5 hv5 hb5 hL5 hOw HOw HB hsz;refine jh ?_;go_wp2_with fail;apply mO HS;clear HS;rintro e w6 ⟨rfl,q6,rfl⟩;have qp:=jh (vG.out.dn q6);have CP:=jh (below_drewN HB5.out q6);have nI:Hid (iG w1.heap.size (.slice (some ⟨g2,0,none⟩) (dn.length+1:Nat) cp2) (dn++[j]) (w5.drewN q6)):=jh nk.out;have HX6:Hid (Boxed (w5.drewN q6) w.heap.size 122 (.pointer (some ⟨b,0,none⟩))):=jh XP.out;obtain⟨w6,L8⟩:=nG (w5.drewN q6);rw[←L8] at qp CP nI HX6⊢;clear L8 vG HB5 nk XP cx;have cx:=HX6.out.cell
  cases WV.out with
  |up h k=>
   rename_i sd L';rw[h];have c1:=qp.out.c1;rw[HN.out] at c1;have bj:(0:Int)≤j∧(j:Int)<N:=oD HJ.out HN.out;have k2:=qp.out.nr.c2 HJ.out.1;have HK:=jh k;clear h k;go_wp2;go_roundw
   case rel=>exact⟨dn++[j],L',_,rfl,jh (by rw[HLr.out];simp),HK,nI,CP⟩
   case measure=>
    have h1:=HLen.out;have h2:=HlV.out;show L.length-Vn (Value.slice (some ⟨g2,0,none⟩) (dn.length+1) cp2)<L.length-Vn _;rw[h2];show L.length-(dn.length+1)<_;omega
  |top h=>
   rw[h];have Iw:Hid (dn++[j]=L):=jh HLr.out.symm
   have hLl:dn.length+1=L.length:=by rw[←Iw.out];simp
   rw[Iw.out,hLl] at nI;rw[hLl];have HLl:=jh hLl;clear h hLl;go_wp2_with fail;refine(SK (some ⟨g2,0,none⟩) L.length cp2 w6).mono ?_;rintro e w7 ⟨rfl,hw7⟩;go_wp2_with fail
   have hB7:Below w6.heap.size w6 w7:=by rw[←hw7];exact(Below.refl _ _).alloc (Nat.le_refl _) _
   have hz7:w7.heap.size=w6.heap.size+1:=by rw[←hw7];simp
   have hT7:Boxed w7 w6.heap.size 62 (.slice (some ⟨g2,0,none⟩) L.length cp2):=by rw[←hw7];exact Boxed.new w6 _ _
   have Zx:Row w6 g2 L.length (yO L):=(Row.owned nI.out).congr λq hq=>by
    unfold yO bH;simp[hq]
   have hg2:g2<w6.heap.size:=Zx.lt;have hR7:Row w7 g2 L.length (yO L):=Zx.below hB7 hg2;have hO7:Off [g] w w7:=Off.of_below ((HB1.out.trans (CP.out.mono (oC HZ1.out))).trans (hB7.mono (oD CP.out.size HZ1.out)));have hL7:bT w7 b g n cap σ li tt ed:=qp.out.keep λq hq=>hB7.block q (qp.out.lt q hq);have hX7:Boxed w7 w.heap.size 122 (.pointer (some ⟨b,0,none⟩)):=(hB7.block _ HX6.out.lt).trans HX6.out;have hbg:=HL.out.lt;have hNw:w.heap.size<w7.heap.size:=Nat.lt_of_lt_of_le HX6.out.lt hB7.size;have hLr:L.reverse.length=L.length:=List.length_reverse;have aoz:w1.heap.size≤g2:=(nI.out.lt g2 rfl).1;have hgw:g<w.heap.size:=hbg g sj;have hz1:=HZ1.out;have hs6:=CP.out.size;refine(wpIn_wide (n:=8)).1 ?_
   refine FN (F:=Fence.wide) rfl om (gf:=207) (lb:=#[.pointer (some ⟨w6.heap.size,0,none⟩)]) rfl trivial (enters_of Tryz.func207 (by kernel_rfl) rfl)
    (Ng 7 om w6.heap.size g2 cp2 L w7 hT7 hR7 om) Jz (Vu om om) (Below.refl _ _) (λ_=>rfl)
    (λpre W=>∃τ,tL n τ (L.reverse.drop pre.length) ρ∧bT W b g n cap τ li tt ed∧Boxed W w.heap.size 122 (.pointer (some ⟨b,0,none⟩))∧Off [g] w W∧w7.heap.size≤W.heap.size)
    (λ_ _ _=>False)
    (λs A B row ⟨τ,h1,h2,h3,h4,h5⟩ hg hr=>⟨τ,h1,h2.keep λq hq=>hg.block q (h2.lt q hq) (λe=>oD ((hr q e.symm).1) (hbg q hq)),(hg.block _ h3.lt (λe=>oC ((hr _ e.symm).1))).trans h3,h4.grown hg (λr e=>oC ((hr r e).1)),Nat.le_trans h5 hg.size⟩)
    (λ_ _ _ _ _ hs _ _=>hs)
    ⟨σ,by simpa using HP.out,hL7,hX7,hO7,Nat.le_refl _⟩
    (λ_ x a' _=>a'={ tmps:=#[Value.pointer (some ⟨b,0,none⟩),.int .i64 i,.pointer (some ⟨w.heap.size,0,none⟩),undef,.slice (some ⟨g2,0,none⟩) L.length cp2,.int .i64 j,.int .i64 (jC σ j),.bool false,undef,Value.int .i64 (L.getD x 0:Nat),undef,undef,undef,undef,undef,.int .i64 i,u4,.int .i64 j,.slice (some ⟨wr.heap.size,0,none⟩) 1 1,.slice (some ⟨g2,0,none⟩) L.length cp2,.tuple #[.int .i64 (jC σ j),.bool false],.pointer (some ⟨b,0,none⟩),.int .i64 j,.tuple #[.int .i64 (jC σ j),.bool false],.int .i64 (jC σ j),.bool false,.bool false,.bool true,u28,u29,u30,u31,u32,u33,u34,u35,.slice (some ⟨g2,0,none⟩) L.length cp2,.func (.func 207) #[] #[.pointer (some ⟨w6.heap.size,0,none⟩)],.int .i64 x,Value.int .i64 (L.getD x 0:Nat),undef,undef,undef,undef,undef,undef,undef,undef,undef,undef,undef,undef,undef,undef,undef,undef,undef,undef,undef,undef,undef,undef,undef,undef,undef,undef,undef,undef,undef,undef,undef,undef,undef,undef,undef,undef,undef,undef],defers:=[] })
    (λ_ _ _ _ _ _ _ hs _ _=>hs) ?assign ?body ?done ?stop
   case assign=>
    intro l pre x W K hI hR hK;unfold aal yO
    gi_wp2_with (rw[Oper.semAt_eq _ _ _ (λc h=>by cases h)];go_simp;try go_bits)
    exact hK _ _ (KeepsFrom.refl _ _) ⟨rfl,rfl⟩ hI rfl
   case body=>
    rintro l pre x a' W hl-⟨τ,h1,h2,h3,h4,h5⟩ rfl hR;have hx:x<L.length:=om
    have hdr:L.reverse.drop pre.length=L.getD x 0::L.reverse.drop (pre++[x]).length:=by
     rw[List.drop_eq_getElem_cons (by rw[hLr];omega),List.length_append,List.length_singleton]
     congr 1
     rw[List.getElem_reverse,List.getD_eq_getElem?_getD,List.getElem?_eq_getElem hx];simp only[Option.getD_some]
     congr 1
     omega
    rw[hdr] at h1;obtain⟨y,hy⟩:=nE (L.getD x 0);rw[hy] at h1⊢
    cases h1 with
    |cons hok hrest=>
     have HPu:=jh (LH h2 hok);have HRe:=jh hrest;have H4:=jh h4;have H3:=jh h3;have H2:=jh h2;have cx:=h3.cell;clear hok hrest h4 h3 h2 hdr hy hR
     gi_wp2_with (rw[Oper.semAt_eq _ _ _ (λc h=>by cases h)];go_simp;try go_bits)
     refine⟨trivial,(CallsIn.inRound l (callsIn_wide.2 HPu.out)).mono ?_⟩;rintro e W3 ⟨rfl,hL3,hO3⟩
     have FIN:=jh (show KeepsFrom w7.heap.size W W3∧yw w6.heap.size g2 W W3∧∃τ,tL n τ (L.reverse.drop (pre++[x]).length) ρ∧bT W3 b g n cap τ li tt ed∧Boxed W3 w.heap.size 122 (.pointer (some ⟨b,0,none⟩))∧Off [g] w W3∧w7.heap.size≤W3.heap.size from
      ⟨⟨hO3.size,λk o hk ho _=>(hO3.block k (Array.getElem?_eq_some_iff.1 ho).1 (by simp;omega)).trans ho⟩,
      ⟨hO3.block _ om (by simp;omega),hO3.block _ om (by simp;omega)⟩,
      _,HRe.out,hL3,(hO3.block _ H3.out.lt (by simp;omega)).trans H3.out,H4.out.trans hO3 (λq hq=>.inl hq),Nat.le_trans h5 hO3.size⟩)
     clear hL3 hO3 H2 H3 H4 HRe HPu
     gi_wp2_with (rw[Oper.semAt_eq _ _ _ (λc h=>by cases h)];go_simp;try go_bits)
     exact FIN.out
   case done=>
    rintro D xs W hD hS ⟨τ,h1,h2,h3,h4,h5⟩ hK;rw[hS,List.drop_of_length_le om] at h1;cases h1;have H2:=jh h2;have HW0:Hid (XJ w b g D W):=jh ⟨h3,h4,hK,hgw,om⟩;clear h2 h3 h4 hK h5 hT7 hR7 Zx hL7 hX7 hO7 hB7 hw7 cx;obtain⟨kk0,ada⟩:=HR.out.toK;have HK0:=jh ada;have HB8:=jh hbg;clear ada HR HL HC HP HB1 NQ mQ HLb nI HX6 CP qp hbg;go_wp2_with fail;obtain⟨wo,rfl⟩:=nG wr;have bi:(0:Int)≤i∧(i:Int)<N:=oC HN.out
    go_loopg [12] kk0 (λM _ wr=>∃(kk:Nat) (iM:Sg) (tc:Nat→Int),M=kk∧Hid (SpK n kk iM i σ')∧Hid (bT wr b g n cap iM li tc ed)∧Hid (XJ w b g D wr))
    case atStart=>exact⟨kk0,ρ,tt,rfl,HK0,H2,HW0⟩
    case round=>
     clear H2 HW0 HK0;obtain⟨kk,iM,tc,hM,Au,kW,za⟩:=hrel
     cases kk with
     |zero=>
      obtain⟨h1,h2,h3⟩:=Au.out;subst h3;have lU:=aM kW.out hi h2;rw[h1] at lU;have lU:=jh lU;have cx:=za.out.bx.cell;clear h1 h2;go_wp2_with fail;apply mO lU;clear lU;rintro e w8 ⟨rfl,qa,rfl⟩;have uW:=jh (kW.out.dn qa);have pR:=jh (za.out.dn qa);clear kW za cx;go_wp2_with fail;rw[Exit.noGoto_ret];have hlt:=pR.out.lt;refine⟨sj,.inl ⟨_,_,rfl,run_takeDeferred pR.out.dm,?_⟩⟩;exact⟨_,results_none rfl _ _ _,rfl,⟨tc,uW.out.keep λq hq=>World.putObj_heap_other (oC (HB8.out q hq))⟩,pR.out.of.grown (grownBy_putObj' _ D _) (λr e=>by cases e;omega)⟩
     |succ kk=>
      subst hM
      rcases Au.out with⟨s,h1,h2,r1,hsp⟩ |⟨s,h1,h2,r1,r2,hsp⟩ |⟨s,h1,h2,r1,r2,hsp⟩
      ·clear Au;cases s
       ·have hpn:(iM i).up≤n:=r1.lp;have hgn:(iM (iM i).up).up≤n:=r1.lg;have lU:=aM kW.out hi hpn;rw[show jC iM i=0 by unfold jC;rw[h1];rfl,h1] at lU;have kP:=λq=>aM (i:=(iM i).up) (kW.out.dn q) hpn hgn;rw[show jC iM (iM i).up=0 by unfold jC;rw[h2],h2] at kP;have k2:=kW.out.nr.c2 hi;have c1:=kW.out.c1;rw[HN.out] at c1;obtain⟨p,hp⟩:=nE ((iM i).up);rw[hp] at k2 kP hpn;have bp:(0:Int)≤p∧(p:Int)<N:=oC HN.out;have cx:=za.out.bx.cell;have lU:=jh lU;have kP:=jh kP;have HR1:=jh r1;have Au:=jh hsp;clear h1 h2 r1 hpn hgn hp hsp;go_wp2_with fail;apply mO lU;clear lU;rintro e w8 ⟨rfl,qa,rfl⟩;go_wp2_with fail;refine(kP.out qa).mono ?_;clear kP;rintro e w8 ⟨rfl,qb,rfl⟩;have uW:=jh ((kW.out.dn qa).dn qb);have pR:=jh ((za.out.dn qa).dn qb);obtain⟨w8,hw8⟩:=nG ((wr.drewN qa).drewN qb);rw[←hw8] at uW pR⊢;clear hw8 kW za cx k2 c1;have cx:=pR.out.bx.cell;go_wp2_with fail;have wD:=pR;refine(bX false uW.out HR1.out hn).mono ?_;rintro e wA ⟨rfl,⟨tA,lA⟩,oA⟩;have TA:=jh lA;have Tk:=jh (wD.out.go oA);clear lA oA wD cx;go_wp2
        go_roundg kk
        case measure=>omega
        case rel=>exact⟨kk,_,tA,rfl,Au,TA,Tk⟩
       ·have hpn:(iM i).up≤n:=r1.lp;have hgn:(iM (iM i).up).up≤n:=r1.lg;have lU:=aM kW.out hi hpn;rw[show jC iM i=1 by unfold jC;rw[h1];rfl,h1] at lU;have kP:=λq=>aM (i:=(iM i).up) (kW.out.dn q) hpn hgn;rw[show jC iM (iM i).up=0 by unfold jC;rw[h2],h2] at kP;have k2:=kW.out.nr.c2 hi;have c1:=kW.out.c1;rw[HN.out] at c1;obtain⟨p,hp⟩:=nE ((iM i).up);rw[hp] at k2 kP hpn;have bp:(0:Int)≤p∧(p:Int)<N:=oC HN.out;have cx:=za.out.bx.cell;have lU:=jh lU;have kP:=jh kP;have HR1:=jh r1;have Au:=jh hsp;clear h1 h2 r1 hpn hgn hp hsp;go_wp2_with fail;apply mO lU;clear lU;rintro e w8 ⟨rfl,qa,rfl⟩;go_wp2_with fail;refine(kP.out qa).mono ?_;clear kP;rintro e w8 ⟨rfl,qb,rfl⟩;have uW:=jh ((kW.out.dn qa).dn qb);have pR:=jh ((za.out.dn qa).dn qb);obtain⟨w8,hw8⟩:=nG ((wr.drewN qa).drewN qb);rw[←hw8] at uW pR⊢;clear hw8 kW za cx k2 c1;have cx:=pR.out.bx.cell;go_wp2_with fail;have wD:=pR;refine(bX true uW.out HR1.out hn).mono ?_;rintro e wA ⟨rfl,⟨tA,lA⟩,oA⟩;have TA:=jh lA;have Tk:=jh (wD.out.go oA);clear lA oA wD cx;go_wp2
        go_roundg kk
        case measure=>omega
        case rel=>exact⟨kk,_,tA,rfl,Au,TA,Tk⟩
      ·clear Au;cases s
       ·have hpn:(iM i).up≤n:=r1.li;have hgn:(iM (iM i).up).up≤n:=r1.lp;have lU:=aM kW.out hi hpn;rw[show jC iM i=0 by unfold jC;rw[h1];rfl,h1] at lU;have kP:=λq=>aM (i:=(iM i).up) (kW.out.dn q) hpn hgn;rw[show jC iM (iM i).up=0 by unfold jC;rw[h2];rfl,h2] at kP;have k2:=kW.out.nr.c2 hi;have c1:=kW.out.c1;rw[HN.out] at c1;obtain⟨p,hp⟩:=nE ((iM i).up);rw[hp] at k2 kP hpn r1 r2 hsp;have bp:(0:Int)≤p∧(p:Int)<N:=oC HN.out;have cx:=za.out.bx.cell;have lU:=jh lU;have kP:=jh kP;have HR1:=jh r1;have HR2:=jh r2;have Au:=jh hsp;clear h1 h2 r1 r2 hpn hgn hp hsp;go_wp2_with fail;apply mO lU;clear lU;rintro e w8 ⟨rfl,qa,rfl⟩;go_wp2_with fail;refine(kP.out qa).mono ?_;clear kP;rintro e w8 ⟨rfl,qb,rfl⟩;have uW:=jh ((kW.out.dn qa).dn qb);have pR:=jh ((za.out.dn qa).dn qb);obtain⟨w8,hw8⟩:=nG ((wr.drewN qa).drewN qb);rw[←hw8] at uW pR⊢;clear hw8 kW za cx k2 c1;have cx:=pR.out.bx.cell;go_wp2_with fail;refine(bX false uW.out HR1.out hn).mono ?_;rintro e w9 ⟨rfl,⟨t9,l9⟩,o9⟩;have HL9:=jh l9;have wD:=jh (pR.out.go o9);clear l9 o9 uW pR cx;have cx:=wD.out.bx.cell;go_wp2_with fail;refine(bX false HL9.out HR2.out hn).mono ?_;rintro e wA ⟨rfl,⟨tA,lA⟩,oA⟩;have TA:=jh lA;have Tk:=jh (wD.out.go oA);clear lA oA wD cx;go_wp2
        go_roundg kk
        case measure=>omega
        case rel=>exact⟨kk,_,tA,rfl,Au,TA,Tk⟩
       ·have hpn:(iM i).up≤n:=r1.li;have hgn:(iM (iM i).up).up≤n:=r1.lp;have lU:=aM kW.out hi hpn;rw[show jC iM i=1 by unfold jC;rw[h1];rfl,h1] at lU;have kP:=λq=>aM (i:=(iM i).up) (kW.out.dn q) hpn hgn;rw[show jC iM (iM i).up=1 by unfold jC;rw[h2];rfl,h2] at kP;have k2:=kW.out.nr.c2 hi;have c1:=kW.out.c1;rw[HN.out] at c1;obtain⟨p,hp⟩:=nE ((iM i).up);rw[hp] at k2 kP hpn r1 r2 hsp;have bp:(0:Int)≤p∧(p:Int)<N:=oC HN.out;have cx:=za.out.bx.cell;have lU:=jh lU;have kP:=jh kP;have HR1:=jh r1;have HR2:=jh r2;have Au:=jh hsp;clear h1 h2 r1 r2 hpn hgn hp hsp;go_wp2_with fail;apply mO lU;clear lU;rintro e w8 ⟨rfl,qa,rfl⟩;go_wp2_with fail;refine(kP.out qa).mono ?_;clear kP;rintro e w8 ⟨rfl,qb,rfl⟩;have uW:=jh ((kW.out.dn qa).dn qb);have pR:=jh ((za.out.dn qa).dn qb);obtain⟨w8,hw8⟩:=nG ((wr.drewN qa).drewN qb);rw[←hw8] at uW pR⊢;clear hw8 kW za cx k2 c1;have cx:=pR.out.bx.cell;go_wp2_with fail;refine(bX true uW.out HR1.out hn).mono ?_;rintro e w9 ⟨rfl,⟨t9,l9⟩,o9⟩;have HL9:=jh l9;have wD:=jh (pR.out.go o9);clear l9 o9 uW pR cx;have cx:=wD.out.bx.cell;go_wp2_with fail;refine(bX true HL9.out HR2.out hn).mono ?_;rintro e wA ⟨rfl,⟨tA,lA⟩,oA⟩;have TA:=jh lA;have Tk:=jh (wD.out.go oA);clear lA oA wD cx;go_wp2
        go_roundg kk
        case measure=>omega
        case rel=>exact⟨kk,_,tA,rfl,Au,TA,Tk⟩
      ·clear Au;cases s
       ·have hpn:(iM i).up≤n:=r1.lp;have hgn:(iM (iM i).up).up≤n:=r1.lg;have lU:=aM kW.out hi hpn;rw[show jC iM i=0 by unfold jC;rw[h1];rfl,h1] at lU;have kP:=λq=>aM (i:=(iM i).up) (kW.out.dn q) hpn hgn;rw[show jC iM (iM i).up=1 by unfold jC;rw[h2];rfl,h2] at kP;have k2:=kW.out.nr.c2 hi;have c1:=kW.out.c1;rw[HN.out] at c1;obtain⟨p,hp⟩:=nE ((iM i).up);rw[hp] at k2 kP hpn;have bp:(0:Int)≤p∧(p:Int)<N:=oC HN.out;have cx:=za.out.bx.cell;have lU:=jh lU;have kP:=jh kP;have HR1:=jh r1;have HR2:=jh r2;have Au:=jh hsp;clear h1 h2 r1 r2 hpn hgn hp hsp;go_wp2_with fail;apply mO lU;clear lU;rintro e w8 ⟨rfl,qa,rfl⟩;go_wp2_with fail;refine(kP.out qa).mono ?_;clear kP;rintro e w8 ⟨rfl,qb,rfl⟩;have uW:=jh ((kW.out.dn qa).dn qb);have pR:=jh ((za.out.dn qa).dn qb);obtain⟨w8,hw8⟩:=nG ((wr.drewN qa).drewN qb);rw[←hw8] at uW pR⊢;clear hw8 kW za cx k2 c1;have cx:=pR.out.bx.cell;go_wp2_with fail;refine(bX false uW.out HR1.out hn).mono ?_;rintro e w9 ⟨rfl,⟨t9,l9⟩,o9⟩;have HL9:=jh l9;have wD:=jh (pR.out.go o9);clear l9 o9 uW pR cx;have cx:=wD.out.bx.cell;go_wp2_with fail;refine(bX true HL9.out HR2.out hn).mono ?_;rintro e wA ⟨rfl,⟨tA,lA⟩,oA⟩;have TA:=jh lA;have Tk:=jh (wD.out.go oA);clear lA oA wD cx;go_wp2
        go_roundg kk
        case measure=>omega
        case rel=>exact⟨kk,_,tA,rfl,Au,TA,Tk⟩
       ·have hpn:(iM i).up≤n:=r1.lp;have hgn:(iM (iM i).up).up≤n:=r1.lg;have lU:=aM kW.out hi hpn;rw[show jC iM i=1 by unfold jC;rw[h1];rfl,h1] at lU;have kP:=λq=>aM (i:=(iM i).up) (kW.out.dn q) hpn hgn;rw[show jC iM (iM i).up=0 by unfold jC;rw[h2];rfl,h2] at kP;have k2:=kW.out.nr.c2 hi;have c1:=kW.out.c1;rw[HN.out] at c1;obtain⟨p,hp⟩:=nE ((iM i).up);rw[hp] at k2 kP hpn;have bp:(0:Int)≤p∧(p:Int)<N:=oC HN.out;have cx:=za.out.bx.cell;have lU:=jh lU;have kP:=jh kP;have HR1:=jh r1;have HR2:=jh r2;have Au:=jh hsp;clear h1 h2 r1 r2 hpn hgn hp hsp;go_wp2_with fail;apply mO lU;clear lU;rintro e w8 ⟨rfl,qa,rfl⟩;go_wp2_with fail;refine(kP.out qa).mono ?_;clear kP;rintro e w8 ⟨rfl,qb,rfl⟩;have uW:=jh ((kW.out.dn qa).dn qb);have pR:=jh ((za.out.dn qa).dn qb);obtain⟨w8,hw8⟩:=nG ((wr.drewN qa).drewN qb);rw[←hw8] at uW pR⊢;clear hw8 kW za cx k2 c1;have cx:=pR.out.bx.cell;go_wp2_with fail;refine(bX true uW.out HR1.out hn).mono ?_;rintro e w9 ⟨rfl,⟨t9,l9⟩,o9⟩;have HL9:=jh l9;have wD:=jh (pR.out.go o9);clear l9 o9 uW pR cx;have cx:=wD.out.bx.cell;go_wp2_with fail;refine(bX false HL9.out HR2.out hn).mono ?_;rintro e wA ⟨rfl,⟨tA,lA⟩,oA⟩;have TA:=jh lA;have Tk:=jh (wD.out.go oA);clear lA oA wD cx;go_wp2
        go_roundg kk
        case measure=>omega
        case rel=>exact⟨kk,_,tA,rfl,Au,TA,Tk⟩
   case stop=>
    rintro D c pre W _ h _;exact h.elim
end
end
def ExK (n:Nat):Nat→Sg→Nat→Nat→Sg→Nat→Prop
 |0,σ,j,b,τ,o=>j=0∧σ=τ∧b=o
 |k+1,σ,j,b,ρ,o=>j≠0∧j≤n∧b≤n∧∃τ,Spl n σ j τ∧(τ j).k1≤n∧kN n (τ.put j { τ j with k1:=b }) j∧ExK n k (yJ τ j b) (τ j).up j ρ o
theorem ExR.toK {n j b o:Nat} {σ ρ:Sg} (h:ExR n σ j b ρ o):∃k,ExK n k σ j b ρ o:=by
 induction h with
 |done=>exact⟨0,rfl,rfl,rfl⟩
 |step h0 hj hb h hk r _ ih=>obtain⟨m,hm⟩:=ih;exact⟨m+1,h0,hj,hb,_,h,hk,r,hm⟩
section
variable {w:World} {b g n cap i j:Nat} {σ σ':Sg} {li tt:Nat→Int} {ed:Int}
theorem fC (h:bT w b g n cap σ li tt ed) (hi:i≤n) (hn:n≤1000000) (hE:Exp n σ i σ'):
  Calls Tryz.prog 116 #[.pointer (some ⟨b,0,none⟩),.int .i64 (i:Nat)] w λe w'=>(∃o:Nat,e=.returned (.int .i64 (o:Nat)))∧(∃Xp iY,bT w' b g n cap σ' Xp iY ed)∧Off [g] w w':=by
 obtain⟨N,hN⟩:=nE (n+1);obtain⟨ρ,o,hX,hS⟩:=hE;obtain⟨kk0,hk0⟩:=hX.toK;have HK0:=jh hk0;have HS:=jh hS;have HL:=jh h;have HN:=jh hN;clear hX hS hk0 h hN;go_in;go_wp2
 go_loopg [5,6] kk0 (λM bv jv wr=>∃(kk:Nat) (bb jj:Nat) (iM:Sg) (lc tc:Nat→Int),M=kk∧bv=.int .i64 bb∧jv=.int .i64 jj∧Hid (ExK n kk iM jj bb ρ o)∧Hid (bT wr b g n cap iM lc tc ed)∧Hid (Off [g] w wr))
 case atStart=>exact⟨kk0,0,i,σ,li,tt,rfl,rfl,rfl,HK0,HL,jh (Off.refl _ _)⟩
 case round=>
  clear HK0 HL;obtain⟨kk,bb,jj,iM,lc,tc,hM,rfl,rfl,HX,kW,HOc⟩:=hrel
  cases kk with
  |zero=>
   obtain⟨h1,h2,h3⟩:=HX.out;subst h2
   have d0:(((jj:Nat):Int) !=0)=false:=by simp[h1]
   have d0':(jj !=0)=false:=by simp[h1]
   clear h1 h3 hM;go_wp2_with fail;refine(wX kW.out hi hn HS.out).mono ?_;rintro e w2 ⟨rfl,⟨t2,l2⟩,o2⟩;have HL2:=jh l2;have eG:=jh (HOc.out.trans o2 (λq hq=>.inl hq));clear l2 o2;go_wp2;go_ret;exact⟨⟨bb,rfl⟩,⟨_,_,HL2.out⟩,eG.out⟩
  |succ kk=>
   subst hM;obtain⟨h0,hjn,hbn,τ,hs,hk1,hr,hx⟩:=HX.out
   have d0:(((jj:Nat):Int) !=0)=true:=by simp;omega
   have d0':(jj !=0)=true:=by simp[h0]
   have Au:=jh (wX kW.out hjn hn hs);have HR:=jh hr;have HXX:=jh hx;have bj:(0:Int)≤jj∧(jj:Int)<N:=oC HN.out;have bb':(0:Int)≤bb∧(bb:Int)<N:=oC HN.out;obtain⟨q,hq⟩:=nE ((τ jj).k1);rw[hq] at hk1;have bq:(0:Int)≤q∧(q:Int)<N:=oC HN.out;have HQ:=jh hq;have HB:=jh (And.intro hjn (And.intro hbn hk1));clear h0 hs hr hx hq hjn hbn hk1 HX;go_wp2_with fail;apply mO Au;rintro e w2 ⟨rfl,⟨t2,l2⟩,o2⟩;have eG:=jh (HOc.out.trans o2 (λq hq=>.inl hq));have c1:=l2.c1;rw[HN.out] at c1;have k1:=l2.nr.c1 HB.out.1;rw[HQ.out] at k1;have k7:=l2.nr.c7 HB.out.1;have f7:=l2.nr.fz (jj*9+7);have f1:=l2.nr.fz (jj*9+1);have q8:=l2.nr.c8 HB.out.2.2;have b8:=l2.nr.c8 HB.out.2.1;have HL2:=jh l2;obtain⟨W2,hW2⟩:=nE ((w2.setCell ⟨g,jj*9+7,none⟩ (.int .i64 (wrap64 (lc jj+wrap64 (t2 q-t2 bb))))).drew);have HW2:=jh hW2
   have oo:Off [g] w2 W2:=by rw[←hW2];exact((Off.refl [g] w2).setCell sj _).drew
   have iH:Hid (bT W2 b g n cap τ (lV lc jj (wrap64 (lc jj+wrap64 (t2 q-t2 bb)))) t2 ed):=jh (by
    refine l2.nodes oo ?_;rw[←hW2]
    exact l2.nr.s7 jj (wrap64 (lc jj+wrap64 (t2 q-t2 bb))))
   have dh:=jh (eG.out.trans oo (λq hq=>.inl hq));clear l2 o2 hW2 oo kW Au HOc;go_wp2
   go_still_tail 28,(by kernel_rfl)
   have oK:Hid (bT ((w2.setCell ⟨g,jj*9+7,none⟩ (.int .i64 (wrap64 (lc jj+wrap64 (t2 q-t2 bb))))).drew.setCell ⟨g,jj*9+1,none⟩ (.int .i64 bb)) b g n cap (τ.put jj { τ jj with k1:=bb }) (lV lc jj (wrap64 (lc jj+wrap64 (t2 q-t2 bb)))) t2 ed):=jh (by
    rw[HW2.out]
    exact iH.out.nodes ((Off.refl [g] W2).setCell sj _) (iH.out.nr.s1 jj bb))
   have jw:Hid (Off [g] w ((w2.setCell ⟨g,jj*9+7,none⟩ (.int .i64 (wrap64 (lc jj+wrap64 (t2 q-t2 bb))))).drew.setCell ⟨g,jj*9+1,none⟩ (.int .i64 bb))):=jh (by
    rw[HW2.out]
    exact dh.out.setCell sj _)
   clear iH dh HW2;go_wp2_with fail;refine(aU oK.out HR.out hn).mono ?_;rintro e w5 ⟨rfl,⟨t5,l5⟩,o5⟩;have nk:=jh (jw.out.trans o5 (λq hq=>.inl hq));have c1:=l5.c1;rw[HN.out] at c1;have k2:=l5.nr.c2 HB.out.1;rw[show(dM (τ.put jj { τ jj with k1:=bb }) jj jj).up=(τ jj).up by simp[dM,Sg.put_eq]] at k2;have vG:Hid (bT w5 b g n cap (yJ τ jj bb) _ t5 ed):=jh l5;clear l5 o5 oK jw k1 k7 f7 f1 q8 b8;go_wp2
   go_roundg kk
   case measure=>omega
   case rel=>exact⟨kk,jj,(τ jj).up,yJ τ jj bb,_,t5,rfl,rfl,rfl,HXX,vG,nk⟩
end
section
variable {w:World} {b g n cap i j:Nat} {σ σ':Sg} {li tt:Nat→Int} {ed:Int}
theorem zN (h:bT w b g n cap σ li tt ed) (hi:i≤n) (hn:n≤1000000) (hE:WL n σ i σ'):
  Calls Tryz.prog 167 #[.pointer (some ⟨b,0,none⟩),.int .i64 (i:Nat)] w λe w'=>e=.returned (.tuple #[])∧(∃Xp iY,bT w' b g n cap σ' Xp iY ed)∧Off [g] w w':=by
 obtain⟨N,hN⟩:=nE (n+1);obtain⟨ρ,hX,hS⟩:=hE;have HX:=jh (fC h hi hn hX);have HS:=jh hS;have HN:=jh hN;have bi:(0:Int)≤i∧(i:Int)<N:=om;clear hX hS h hN;go_in;go_wp2_with fail;apply mO HX;clear HX;rintro e w2 ⟨⟨o,rfl⟩,⟨l2,t2,h2⟩,o2⟩;have c1:=h2.c1;rw[HN.out] at c1;have f3:=h2.nr.fz (i*9+3);have k3:=h2.nr.c3 hi;have HL:=jh (h2.nodes ((Off.refl [g] w2).setCell (p:=⟨g,i*9+3,none⟩) sj (.bool true)) (h2.nr.s3 i true));have HO:=jh (o2.setCell (p:=⟨g,i*9+3,none⟩) sj (.bool true));clear h2 o2;go_wp2;go_end0;exact⟨rfl,⟨_,_,by rw[HS.out];exact HL.out⟩,HO.out⟩
theorem uD (h:bT w b g n cap σ li tt ed) (hi:i≤n) (hj:j≤n) (hn:n≤1000000) (hE:Pth n σ i j σ'):
  Calls Tryz.prog 135 #[.pointer (some ⟨b,0,none⟩),.int .i64 (i:Nat),.int .i64 (j:Nat)] w λe w'=>e=.returned (.tuple #[])∧(∃Xp iY,bT w' b g n cap σ' Xp iY ed)∧Off [g] w w':=by
 obtain⟨ρ,hX,hS⟩:=hE;have HX:=jh (zN h hi hn hX);have HS:=jh hS;clear hX hS h;go_in;go_wp2_with fail;apply mO HX;clear HX;rintro e w2 ⟨rfl,⟨l2,t2,h2⟩,o2⟩;have HX:=jh (fC h2 hj hn HS.out);have HO:=jh o2;clear h2 o2;go_wp2_with fail;apply mO HX;clear HX;rintro e w3 ⟨⟨o,rfl⟩,h3,o3⟩;have H3:=jh h3;have dh:=jh (HO.out.trans o3 (λq hq=>.inl hq));clear h3 o3;go_wp2;go_end0;exact⟨rfl,H3.out,dh.out⟩
theorem Tryz.YU:(Tryz.prog.info? 214).isSome=true:=by kernel_rfl
theorem QJ (a:Addr) (w:World):(binOp .eql 122 (.pointer (some a)) (.pointer (some a))).run Tryz.prog w=.ok (.bool true) w:=by
 obtain⟨j,hj⟩:=Option.isSome_iff_exists.1 Tryz.YU;exact run_eql_ptr_same w a Tryz.underlying122 hj
theorem wW (h:bT w b g n cap σ li tt ed):
  Calls Tryz.prog 149 #[.pointer (some ⟨b,0,none⟩)] w λe w'=>e=.returned (.bool true)∧∃q,w'=w.drewN q:=by
 have c0:=h.c0;have eq:=QJ ⟨b,0,none⟩;clear h;go_in;go_wp2;go_ret;exact⟨rfl,0,rfl⟩
theorem sG (h:bT w b g n cap σ li tt ed) (v:Int) (hn:n≤1000000):
  Calls Tryz.prog 115 #[.pointer (some ⟨b,0,none⟩),.int .i64 v] w λe w'=>e=.returned (.bool (decide (0≤v∧v<n)))∧∃q,w'=w.drewN q:=by
 have HV:=jh (wW h);have HL:=jh h;obtain⟨N,hN⟩:=nE (n+1);have HN:=jh hN;have bN:(1:Int)≤N∧(N:Int)≤1000001:=om;obtain⟨r,hr⟩:=nG (decide (0≤v∧v<n));rw[←hr];have HR:=jh hr;clear hr;clear h hN;go_in;go_wp2_with fail;apply mO HV;rintro e w2 ⟨rfl,q,rfl⟩;have c1:=(HL.out.dn q).c1;rw[HN.out] at c1;go_wp2_with fail
 all_goals (go_ret;refine⟨?_,q,rfl⟩;rw[HR.out];have hNN:=HN.out)
 all_goals first
  |(exact congrArg (λx=>Ending.returned (.bool x)) (dF om).symm)
  |(exact congrArg (λx=>Ending.returned (.bool x)) (decide_eq_decide.2 om))
end
section
variable {w:World} {b g n cap i j:Nat} {σ σ':Sg} {li tt:Nat→Int} {ed:Int}
theorem wY {c m cc:Nat} {v:Nat→Nat} (h:bT w b g n cap σ li tt ed) (V:Row w c m (λi=>.int .i64 (v i:Nat))) (hv:∀i<m,v i<n) (hm:m≤1000) (hn:n≤1000000):
  Calls Tryz.prog 123 #[.pointer (some ⟨b,0,none⟩),.slice (some ⟨c,0,none⟩) (m:Nat) cc] w λe w'=>e=.returned (.int .i64 0)∧∃q,w'=w.drewN q:=by
 have HL:=jh h;have HC:=jh V;have HI:=jh hv;clear h V hv;go_in;go_wp2_with fail;refine(wW HL.out).mono ?_;rintro e w2 ⟨rfl,q,rfl⟩;go_wp2
 go_loopg [12] m (λM iv wr=>∃i q,M+i=m∧iv=.int .i64 i∧wr=w.drewN q)
 case atStart=>exact⟨0,q,rfl,rfl,rfl⟩
 case round=>
  obtain⟨i,q,hM,rfl,rfl⟩:=hrel
  by_cases c0:i<m
  ·have d0:decide ((i:Int)<m)=true:=dP om;have bi:(0:Int)≤i∧(i:Int)<m:=om
   have bw:wrap64 ((i:Int)+1)=((i+1:Nat):Int):=by unfold wrap64;omega
   have cv:=(HC.out.of_block (w':=w.drewN q) sj).cell c0;have HH:=sG (HL.out.dn q) (v i) hn;rw[dP (show(0:Int)≤v i∧(v i:Int)<n by have:=HI.out i c0;omega)] at HH;have HX:=jh HH;clear HH;go_wp2_with fail;apply mO HX;rintro e w3 ⟨rfl,q3,rfl⟩;go_wp2
   go_roundg (m-(i+1))
   case measure=>omega
   case rel=>exact⟨i+1,_,om,rfl,rfl⟩
  ·have d0:decide ((i:Int)<m)=false:=dF om;go_wp2;go_ret;exact⟨rfl,_,rfl⟩
theorem bT.off {S:List Nat} {w':World} (h:bT w b g n cap σ li tt ed) (o:Off S w w') (hb:b∉S) (hg:g∉S):bT w' b g n cap σ li tt ed:=⟨h.fr.off o hb,h.nr.off o hg,h.ne⟩
theorem Vq {a:Nat} {t:TypeId} (h:bT w b g n cap σ li tt ed) (ha:a<n) (hn:n≤1000000):
  Calls Tryz.prog 123 #[.pointer (some ⟨b,0,none⟩),.slice (some ⟨w.heap.size,0,none⟩) 1 1] (w.alloc (.cells #[.int .i64 (a:Nat)] t)) λe w'=>e=.returned (.int .i64 0)∧bT w' b g n cap σ li tt ed∧Off [] w w':=by
 have o:=(Off.refl [] w).alloc (.cells #[.int .i64 a] t);have h1:=h.off o sj sj;refine(wY (m:=1) (v:=λ_=>a) h1 (Row.lit w _ t (Nat.le_refl _) λi hi=>?_) (λ_ _=>ha) (by decide) hn).mono ?_
 ·match i,hi with
  |0,_=>rfl
  |k+1,e=>exact absurd e om
 ·rintro e w2 ⟨h2,q,rfl⟩;exact⟨h2,h1.dn q,o.drewN q⟩
theorem Jt {a c:Nat} {t:TypeId} (h:bT w b g n cap σ li tt ed) (ha:a<n) (hc:c<n) (hn:n≤1000000):
  Calls Tryz.prog 123 #[.pointer (some ⟨b,0,none⟩),.slice (some ⟨w.heap.size,0,none⟩) 2 2] (w.alloc (.cells #[.int .i64 (a:Nat),.int .i64 (c:Nat)] t)) λe w'=>e=.returned (.int .i64 0)∧bT w' b g n cap σ li tt ed∧Off [] w w':=by
 have o:=(Off.refl [] w).alloc (.cells #[.int .i64 a,.int .i64 c] t);have h1:=h.off o sj sj;refine(wY (m:=2) (v:=λi=>if i=0 then a else c) h1 (Row.lit w _ t (Nat.le_refl _) λi hi=>?_) (λi _=>by split;exact ha;exact hc) (by decide) hn).mono ?_
 ·match i,hi with
  |0,_=>rfl
  |1,_=>rfl
  |k+2,e=>exact absurd e om
 ·rintro e w2 ⟨h2,q,rfl⟩;exact⟨h2,h1.dn q,o.drewN q⟩
end
def qd (w:World) (b g n:Nat) (key:Nat→Int) (A:Nat→Nat→Prop) (ed:Int):Prop:=
 ∃cap σ li tt,bT w b g n cap σ li tt ed∧wC n σ A∧∀x,(σ x).key=key x
section
variable {w w':World} {b g n:Nat} {key:Nat→Int} {A:Nat→Nat→Prop} {ed:Int}
theorem qd.keep (h:qd w b g n key A ed) (e:∀j∈[b,g],w'.heap[j]?=w.heap[j]?):qd w' b g n key A ed:=by
 obtain⟨c,σ,li,tt,h1,h2,h3⟩:=h;exact⟨c,σ,li,tt,h1.keep e,h2,h3⟩
theorem qd.dn (h:qd w b g n key A ed) (q:Nat):qd (w.drewN q) b g n key A ed:=h.keep λj _=>sj
theorem qd.lt (h:qd w b g n key A ed):∀j∈[b,g],j<w.heap.size:=by
 obtain⟨c,σ,li,tt,h1,h2,h3⟩:=h;exact h1.lt
theorem qd.iff {B:Nat→Nat→Prop} {k2:Nat→Int} (h:qd w b g n key A ed) (hA:∀v u,A v u↔B v u) (hk:∀x,key x=k2 x):qd w b g n k2 B ed:=by
 obtain⟨c,σ,li,tt,h1,h2,h3⟩:=h;exact⟨c,σ,li,tt,h1,h2.iff hA,λx=>(h3 x).trans (hk x)⟩
end
section
variable {w:World} {b g n a c:Nat} {key:Nat→Int} {A:Nat→Nat→Prop} {ed:Int}
theorem lJ (h:qd w b g n key A ed) (ha:a<n) (hc:c<n) (hn:n≤1000000):
  Calls Tryz.prog 68 #[.pointer (some ⟨b,0,none⟩),.int .i64 (a:Nat),.int .i64 (c:Nat)] w λe w'=>(∃r:Bool,e=.returned (.bool r)∧(r=true↔cZ A (a+1) (c+1)))∧qd w' b g n key A ed∧Off [g] w w':=by
 obtain⟨N,hN⟩:=nE (n+1);obtain⟨cap,σ,li,tt,h1,h2,h3⟩:=h;have Ha:=sG h1 a hn;rw[dP (show(0:Int)≤a∧(a:Int)<n by omega)] at Ha;have Hc:=λq=>sG (h1.dn q) c hn;rw[dP (show(0:Int)≤c∧(c:Int)<n by omega)] at Hc;have HA:=jh Ha;have HC:=jh Hc;have HL:=jh h1;have HT:=jh h2;have HK:=jh h3;have HN:=jh hN;have HB:=jh (And.intro ha hc);obtain⟨x,hx⟩:=nE (a+1);obtain⟨y,hy⟩:=nE (c+1);have wa:(a:Int)+1=(x:Int):=om;have wc:(c:Int)+1=(y:Int):=om;rw[hx,hy];have J7:=jh (And.intro hx hy);clear Ha Hc h1 h2 h3 hN hx hy
 by_cases hac:a=c
 ·subst hac;go_in;go_wp2_with fail;apply mO HA;rintro e w2 ⟨rfl,q,rfl⟩;go_wp2_with fail;refine(HC.out q).mono ?_;rintro e w3 ⟨rfl,q3,rfl⟩;go_wp2;go_ret;exact⟨⟨true,rfl,by rw[←J7.out.1,←J7.out.2];simp;exact .refl⟩,⟨_,_,_,_,HL.out.dn _,HT.out,HK.out⟩,(Off.refl _ _).drewN _⟩
 ·obtain⟨τ,ρ,e1,e2,e3,e4,e5⟩:=QL HT.out (a:=x) (b:=y) (oC J7.out) (oC J7.out) (oC J7.out) (oC J7.out) (oC J7.out);have H1:=jh e1;have H2:=jh e2;have H3:=jh e3;have H4:=jh e4;have H5:=jh e5
  have d0:(((a:Nat):Int)==c)=false:=by simp;omega
  have bx:(0:Int)≤x∧(x:Int)≤1000001∧(0:Int)≤y∧(y:Int)≤1000001:=oD J7.out HB.out
  have d0':(a==c)=false:=by simp[hac]
  have ba:(0:Int)≤x∧(x:Int)<N:=oD HN.out J7.out;clear e1 e2 e3 e4 e5 HT hac;go_in;go_wp2_with fail;apply mO HA;rintro e w2 ⟨rfl,q,rfl⟩;go_wp2_with fail;refine(HC.out q).mono ?_;rintro e w3 ⟨rfl,q3,rfl⟩;clear HA HC;have HL2:=jh (HL.out.dn (q+q3));go_wp2_with fail;refine(fC (i:=x) HL2.out (oD HB.out J7.out) hn H1.out).mono ?_;rintro e w4 ⟨⟨o,rfl⟩,⟨l4,t4,h4⟩,o4⟩;have oK:=jh h4;have jw:=jh (((Off.refl [g] w).drewN (q+q3)).trans o4 (λj hj=>.inl hj));clear h4 o4 HL2 HL;go_wp2_with fail;refine(fC (i:=y) oK.out (oD HB.out J7.out) hn H2.out).mono ?_;rintro e w5 ⟨⟨o5,rfl⟩,⟨l5,t5,h5⟩,f5⟩;have vG:=jh h5;have nk:=jh (jw.out.trans f5 (λj hj=>.inl hj));have c1:=h5.c1;rw[HN.out] at c1;have k2:=h5.nr.c2 (i:=x) (oD HB.out J7.out);obtain⟨u,hu⟩:=nE ((ρ x).up);rw[hu] at k2;have HU:=jh hu;clear h5 f5 hu oK jw;go_wp2;go_ret;refine⟨⟨_,rfl,?_⟩,⟨_,_,_,_,vG.out,H3.out,λz=>(H4.out z).trans (HK.out z)⟩,nk.out⟩;rw[←H5.out,HU.out];simp
theorem LG (h:qd w b g n key A ed) (ha:a<n) (hn:n≤1000000):
  Calls Tryz.prog 141 #[.pointer (some ⟨b,0,none⟩),.int .i64 (a:Nat)] w λe w'=>(∃t:Int,e=.returned (.int .i64 t))∧qd w' b g n key A ed∧Off [g] w w':=by
 obtain⟨N,hN⟩:=nE (n+1);obtain⟨cap,σ,li,tt,h1,h2,h3⟩:=h;have Ha:=sG h1 a hn;rw[dP (show(0:Int)≤a∧(a:Int)<n by omega)] at Ha;obtain⟨x,hx⟩:=nE (a+1);obtain⟨τ,e1,e2,e3⟩:=Gn h2 (i:=x) om om;have HA:=jh Ha;have HL:=jh h1;have HK:=jh h3;have HN:=jh hN;have H1:=jh e1;have H2:=jh e2;have H3:=jh e3;have HB:=jh (And.intro hx ha);have wa:(a:Int)+1=(x:Int):=om;have bx:(0:Int)≤x∧(x:Int)<N∧(x:Int)≤1000001:=om;clear Ha h1 h2 h3 hN hx e1 e2 e3;go_in;go_wp2_with fail;apply mO HA;rintro e w2 ⟨rfl,q,rfl⟩;go_wp2_with fail;refine(fC (i:=x) (HL.out.dn q) (oC HB.out) hn H1.out).mono ?_;rintro e w4 ⟨⟨o,rfl⟩,⟨l4,t4,h4⟩,o4⟩;have oK:=jh h4;have jw:=jh (((Off.refl [g] w).drewN q).trans o4 (λj hj=>.inl hj));have c1:=h4.c1;rw[HN.out] at c1;have k8:=h4.nr.c8 (i:=x) (oC HB.out);clear h4 o4;go_wp2;go_ret;exact⟨⟨_,rfl⟩,⟨_,_,_,_,oK.out,H2.out,λz=>(H3.out z).trans (HK.out z)⟩,jw.out⟩
end
section
variable {w:World} {b g n a c:Nat} {key:Nat→Int} {A:Nat→Nat→Prop} {ed:Int}
theorem DW (h:qd w b g n key A ed) (ha:a<n) (hn:n≤1000000) (kv:Int):
  Calls Tryz.prog 78 #[.pointer (some ⟨b,0,none⟩),.int .i64 (a:Nat),.int .i64 kv] w λe w'=>e=.returned (.int .i64 0)∧qd w' b g n (λx=>if x=a+1 then kv else key x) A ed∧Off [g] w w':=by
 obtain⟨N,hN⟩:=nE (n+1);obtain⟨cap,σ,li,tt,h1,h2,h3⟩:=h;obtain⟨x,hx⟩:=nE (a+1);rw[hx];obtain⟨τ,e1,e2,e3,e4⟩:=Vo h2 (i:=x) om om kv;have HL:=jh h1;have HK:=jh h3;have HN:=jh hN;have H1:=jh e1;have H2:=jh e2;have H3:=jh e3;have H4:=jh e4;have HB:=jh (And.intro hx ha);have wa:(a:Int)+1=(x:Int):=om;have bx:(0:Int)≤x∧(x:Int)<N∧(x:Int)≤1000001:=om;clear h1 h2 h3 hN hx e1 e2 e3 e4;go_in;go_wp2_with fail;refine(Vq HL.out ha hn).mono ?_;rintro e w2 ⟨rfl,l2,o2⟩;have HL2:=jh l2;have eG:=jh (o2.mono (S':=[g]) (λj hj=>nomatch hj));clear l2 o2 HL;go_wp2_with fail;refine(fC (i:=x) HL2.out (oC HB.out) hn H1.out).mono ?_;rintro e w4 ⟨⟨o,rfl⟩,⟨l4,t4,h4⟩,o4⟩;have oK:=jh (h4.nodes ((Off.refl [g] w4).setCell (p:=⟨g,x*9+4,none⟩) sj (.int .i64 kv)) (h4.nr.s4 x kv));have jw:=jh ((eG.out.trans o4 (λj hj=>.inl hj)).setCell (p:=⟨g,x*9+4,none⟩) sj (.int .i64 kv));have c1:=h4.c1;rw[HN.out] at c1;have k4:=h4.nr.c4 (i:=x) (oC HB.out);have f4:=h4.nr.fz (x*9+4);clear h4 o4;go_wp2_with fail;refine(aU (i:=x) oK.out H2.out hn).mono ?_;rintro e w5 ⟨rfl,⟨t5,h5⟩,o5⟩;have vG:=jh h5;have nk:=jh (jw.out.trans o5 (λj hj=>.inl hj));clear h5 o5;go_wp2;go_ret;refine⟨rfl,⟨_,_,_,_,vG.out,H4.out,λz=>(H3.out z).trans ?_⟩,nk.out⟩;rw[HK.out]
end
section
variable {w:World} {b g n cap a c:Nat} {σ:Sg} {li tt:Nat→Int} {key:Nat→Int} {A:Nat→Nat→Prop} {ed:Int}
theorem bT.ab3 (h:bT w b g n cap σ li tt ed) (v:Int):bT (w.setCell ⟨b,2,none⟩ (.int .i64 v)) b g n cap σ li tt v:=
 ⟨(h.fr.set 2 (.int .i64 v)).congr λi hi=>by match i,hi with |0,_=>rfl |1,_=>rfl |2,_=>rfl |k+3,e=>exact absurd e om,Row.setOther h.nr (λe=>h.ne e.symm) _,h.ne⟩
theorem zM (h:qd w b g n key A ed) (ha:a<n) (hc:c<n) (hac:a≠c) (hr:¬cZ A (a+1) (c+1)) (hn:n≤1000000):
  Calls Tryz.prog 136 #[.pointer (some ⟨b,0,none⟩),.int .i64 (a:Nat),.int .i64 (c:Nat)] w λe w'=>e=.returned (.int .i64 0)∧(∃ed',qd w' b g n key (λv u=>A v u∨v=a+1∧u=c+1∨v=c+1∧u=a+1) ed')∧Off [b,g] w w':=by
 obtain⟨N,hN⟩:=nE (n+1);obtain⟨x,hx⟩:=nE (a+1);obtain⟨y,hy⟩:=nE (c+1);rw[hx,hy] at hr⊢;obtain⟨cap,σ,li,tt,h1,h2,h3⟩:=h;have HL:=jh h1;have HT:=jh h2;have HK:=jh h3;have HN:=jh hN;have HR:=jh hr;have HB:=jh (And.intro hx (And.intro hy (And.intro ha (And.intro hc hac))));have wa:(a:Int)+1=(x:Int):=om;have wc:(c:Int)+1=(y:Int):=om
 have d0:(((a:Nat):Int)==c)=false:=by simp;omega
 have d0':(a==c)=false:=by simp[hac]
 have bx:(0:Int)≤x∧(x:Int)<N∧(x:Int)≤1000001∧(0:Int)≤y∧(y:Int)<N∧(y:Int)≤1000001:=om;clear h1 h2 h3 hN hx hy hr hac;go_in;go_wp2_with fail;refine(Jt HL.out ha hc hn).mono ?_;rintro e w2 ⟨rfl,l2,o2⟩;have HL2:Hid (qd w2 b g n key A ed):=jh ⟨_,_,_,_,l2,HT.out,HK.out⟩;have eG:=jh (o2.mono (S':=[b,g]) (λj hj=>nomatch hj));clear l2 o2 HL HT HK;go_wp2_with fail;refine(lJ HL2.out ha hc hn).mono ?_;rintro e w3 ⟨⟨r,rfl,hr⟩,l3,o3⟩
 obtain rfl:r=false:=by
  cases r with
  |false=>rfl
  |true=>exact absurd (by have:=hr.1 rfl;rw[HB.out.1,HB.out.2.1] at this;exact this) HR.out
 obtain⟨cap,σ,li,tt,h1,h2,h3⟩:=l3;obtain⟨τ,ρ,e1,e2,e3,e4,e5⟩:=QK h2 (a:=x) (b:=y) (oC HB.out) (oC HB.out) (oC HB.out) (oC HB.out) (oC HB.out) HR.out;have iH:=jh h1;have HK:=jh h3;have dh:=jh (eG.out.trans o3 (λj hj=>.inl (by simp at hj;simp[hj])));have H1:=jh e1;have H2:=jh e2;have H3:=jh e3;have H4:=jh e4;have H5:=jh e5;clear h1 h2 h3 o3 e1 e2 e3 e4 e5 hr HL2 eG;go_wp2_with fail;refine(zN (i:=x) iH.out (oC HB.out) hn H1.out).mono ?_;rintro e w4 ⟨rfl,⟨l4,t4,h4⟩,o4⟩;have oK:=jh h4;have jw:=jh (dh.out.trans o4 (λj hj=>.inl (by simp at hj;simp[hj])));clear h4 o4 iH dh;go_wp2_with fail;refine(fC (i:=y) oK.out (oC HB.out) hn H2.out).mono ?_;rintro e w5 ⟨⟨o,rfl⟩,⟨l5,t5,h5⟩,o5⟩;have c1:=h5.c1;rw[HN.out] at c1;have k2:=h5.nr.c2 (i:=x) (oC HB.out);have f2:=h5.nr.fz (x*9+2);have vG:=jh h5;have nk:=jh (jw.out.trans o5 (λj hj=>.inl (by simp at hj;simp[hj])));clear h5 o5 oK jw;go_wp2_with fail;generalize hW:w5.setCell ⟨g,x*9+2,none⟩ (.int .i64 y)=W
 have h6:bT W b g n cap (ρ.put x { ρ x with up:=y }) l5 t5 ed:=by
  rw[←hW];exact vG.out.nodes ((Off.refl [g] w5).setCell (p:=⟨g,x*9+2,none⟩) sj _) (vG.out.nr.s2 x y)
 have nI:Hid (Off [b,g] w W):=jh (by
  rw[←hW]
  exact nk.out.setCell (p:=⟨g,x*9+2,none⟩) sj _)
 clear k2 f2 c1 hW vG nk;have c1:=h6.c1;rw[HN.out] at c1;have k6:=h6.nr.c7 (i:=y) (oC HB.out);have k7:=h6.nr.c8 (i:=x) (oC HB.out);have f6:=h6.nr.fz (y*9+7);have qp:=jh h6;clear h6;have wx:IntKind.i64.wrap (x:Int)=x:=(IntKind.wrap_i64 _).trans om;have wy:IntKind.i64.wrap (y:Int)=y:=(IntKind.wrap_i64 _).trans om
 go_still_tail 21,(by kernel_rfl)
 go_wp2_with fail;have Uk:=jh ((qp.out.nodes ((Off.refl [g] W).setCell (p:=⟨g,y*9+7,none⟩) sj (.int .i64 (wrap64 (l5 y+t5 x)))) (qp.out.nr.s7 y _)).dr);have Cc:=jh ((nI.out.setCell (p:=⟨g,y*9+7,none⟩) sj (.int .i64 (wrap64 (l5 y+t5 x)))).drew);clear c1 k6 k7 f6 qp nI;refine(aU (i:=y) Uk.out H3.out hn).mono ?_;rintro e w8 ⟨rfl,⟨t8,h8⟩,o8⟩;have c2:=h8.c2;have f8:=h8.fr.frozen 2;have uW:=jh (h8.ab3 (wrap64 (ed+1)));have HO8:=jh ((Cc.out.trans o8 (λj hj=>.inl (by simp at hj;simp[hj]))).setCell (p:=⟨b,2,none⟩) sj (.int .i64 (wrap64 (ed+1))));clear h8 o8 Uk Cc;go_wp2;go_ret;exact⟨rfl,⟨_,_,_,_,_,uW.out,H5.out,λz=>(H4.out z).trans (HK.out z)⟩,HO8.out⟩
end
structure S9 (n:Nat) (key:Nat→Int) (A:Nat→Nat→Prop) (x y:Nat) (L:List Nat) (m:Nat):Prop where
 mem:m∈L
 least:∀z∈L,key m<key z∨key m=key z∧m≤z
 rng:∀z∈L,z≠0∧z≤n
 fst:x∈L
 qM:y∈L
 rch:∀z∈L,cZ A x z
 way:cZ (λv w=>A v w∧v∈L∧w∈L) x y
 cut:∀z∈L,z≠x→z≠y→¬cZ (λv w=>A v w∧v≠z∧w≠z) x y
section
variable {w:World} {b g n a c:Nat} {key:Nat→Int} {A:Nat→Nat→Prop} {ed:Int}
theorem QD (h:qd w b g n key A ed) (ha:a<n) (hc:c<n) (hac:a≠c) (hr:cZ A (a+1) (c+1)) (hn:n≤1000000):
  Calls Tryz.prog 96 #[.pointer (some ⟨b,0,none⟩),.int .i64 (a:Nat),.int .i64 (c:Nat)] w λe w'=>(∃m L,e=.returned (.tuple #[.int .i64 (m:Nat),.bool true])∧S9 n key A (a+1) (c+1) L (m+1))∧qd w' b g n key A ed∧Off [g] w w':=by
 obtain⟨N,hN⟩:=nE (n+1);obtain⟨x,hx⟩:=nE (a+1);obtain⟨y,hy⟩:=nE (c+1);rw[hx,hy] at hr⊢;have HL:=jh h;have HN:=jh hN;have HR:=jh hr;have HB:=jh (And.intro hx (And.intro hy (And.intro ha (And.intro hc hac))));have wa:(a:Int)+1=(x:Int):=om;have wc:(c:Int)+1=(y:Int):=om;have bx:(0:Int)≤x∧(x:Int)<N∧(x:Int)≤1000001∧(0:Int)≤y∧(y:Int)<N∧(y:Int)≤1000001:=om;clear h hN hx hy hr hac;go_in;go_wp2_with fail;refine(lJ HL.out ha hc hn).mono ?_;rintro e w3 ⟨⟨r,rfl,hr⟩,l3,o3⟩;obtain rfl:r=true:=hr.2 (by rw[HB.out.1,HB.out.2.1];exact HR.out);obtain⟨cap,σ,li,tt,h1,h2,h3⟩:=l3;obtain⟨τ,L,p1,p2,p3,p4,p5,p6,p7,p8,p9,p10,p11,Cm,_⟩:=Js h2 (a:=x) (b:=y) (oC HB.out) (oC HB.out) (oC HB.out) (oC HB.out) (oC HB.out) HR.out;have hf:(τ y).fi∈L:=p5.1;obtain⟨m,hm⟩:∃m,(τ y).fi=m+1:=⟨(τ y).fi-1,oC (p6 _ hf)⟩;have hk:∀z,(τ z).key=key z:=λz=>(p3 z).trans (h3 z);have HW:Hid (S9 n key A x y L (m+1)):=jh ⟨hm▸hf,λz hz=>by have:=p5.2 z hz;rw[hm] at this;rw[←hk,←hk];rcases this with rfl |h0;exact .inr ⟨rfl,Nat.le_refl _⟩;rcases h0 with h0 |⟨h0,h00⟩;exact .inl h0;exact .inr ⟨h0,Nat.le_of_lt h00⟩,p6,p8,p9,p10,p11,Cm⟩;have bm:(0:Int)≤m∧(m:Int)≤1000001:=oC (p6 _ hf);have iH:=jh h1;have dh:=jh o3;have H1:=jh p1;have H2:=jh p2;have HK:=jh hk;have HM:=jh hm;clear h1 h2 h3 o3 p1 p2 p3 p4 p5 p6 p7 p8 p9 p10 p11 Cm hf hm hk hr HL;go_wp2_with fail;refine(uD (i:=x) (j:=y) iH.out (oC HB.out) (oC HB.out) hn H1.out).mono ?_;rintro e w4 ⟨rfl,⟨l4,t4,h4⟩,o4⟩;have oK:=jh h4;have jw:=jh (dh.out.trans o4 (λj hj=>.inl hj));have c1:=h4.c1;rw[HN.out] at c1;have k6:=h4.nr.c6 (i:=y) (oC HB.out);rw[HM.out] at k6;have wm:(((m+1:Nat):Int))-1=(m:Int):=om;clear h4 o4 iH dh;go_wp2;go_ret2;exact⟨⟨m,L,rfl,HW.out⟩,⟨_,_,_,_,oK.out,H2.out,HK.out⟩,jw.out⟩
theorem LU (h:qd w b g n key A ed) (ha:a<n) (hc:c<n) (hac:a≠c) (hr:A (a+1) (c+1)) (hn:n≤1000000):
  Calls Tryz.prog 138 #[.pointer (some ⟨b,0,none⟩),.int .i64 (a:Nat),.int .i64 (c:Nat)] w λe w'=>e=.returned (.int .i64 1)∧qd w' b g n key A ed∧Off [g] w w':=by
 obtain⟨N,hN⟩:=nE (n+1);obtain⟨x,hx⟩:=nE (a+1);obtain⟨y,hy⟩:=nE (c+1);rw[hx,hy] at hr;have HL:=jh h;have HN:=jh hN;have HR:=jh hr;have HB:=jh (And.intro hx (And.intro hy (And.intro ha (And.intro hc hac))));have wa:(a:Int)+1=(x:Int):=om;have wc:(c:Int)+1=(y:Int):=om;have bx:(0:Int)≤x∧(x:Int)<N∧(x:Int)≤1000001∧(0:Int)≤y∧(y:Int)<N∧(y:Int)≤1000001:=om;clear h hN hx hy hr hac;go_in;go_wp2_with fail;refine(lJ HL.out ha hc hn).mono ?_;rintro e w3 ⟨⟨r,rfl,hr⟩,l3,o3⟩;obtain rfl:r=true:=hr.2 (by rw[HB.out.1,HB.out.2.1];exact .step .refl HR.out);obtain⟨cap,σ,li,tt,h1,h2,h3⟩:=l3;obtain⟨τ,L,p1,p2,p3,p4,p5,p6,p7,p8,p9,p10,p11,Cm,U7⟩:=Js h2 (a:=x) (b:=y) (oC HB.out) (oC HB.out) (oC HB.out) (oC HB.out) (oC HB.out) (.step .refl HR.out)
 have hs:(τ y).sz=2:=by rw[p4,U7.2 HR.out];rfl
 have iH:=jh h1;have dh:=jh o3;have H1:=jh p1;have H2:=jh p2;have HK:=jh (λz=>(p3 z).trans (h3 z));have HS:=jh hs;clear h1 h2 h3 o3 p1 p2 p3 p4 p5 p6 p7 p8 p9 p10 p11 Cm U7 hs hr HL;go_wp2_with fail;refine(uD (i:=x) (j:=y) iH.out (oC HB.out) (oC HB.out) hn H1.out).mono ?_;rintro e w4 ⟨rfl,⟨l4,t4,h4⟩,o4⟩;have oK:=jh h4;have jw:=jh (dh.out.trans o4 (λj hj=>.inl hj));have c1:=h4.c1;rw[HN.out] at c1;have k5:=h4.nr.c5 (i:=y) (oC HB.out);rw[HS.out] at k5;clear h4 o4 iH dh;go_wp2;go_ret;exact⟨rfl,⟨_,_,_,_,oK.out,H2.out,HK.out⟩,jw.out⟩
theorem D6 (h:qd w b g n key A ed) (ha:a<n) (hc:c<n) (hac:a≠c) (hr:A (a+1) (c+1)) (hn:n≤1000000):
  Calls Tryz.prog 100 #[.pointer (some ⟨b,0,none⟩),.int .i64 (a:Nat),.int .i64 (c:Nat)] w λe w'=>e=.returned (.int .i64 0)∧(∃ed',qd w' b g n key (λv u=>A v u∧¬(v=a+1∧u=c+1)∧¬(v=c+1∧u=a+1)) ed')∧Off [b,g] w w':=by
 obtain⟨N,hN⟩:=nE (n+1);obtain⟨x,hx⟩:=nE (a+1);obtain⟨y,hy⟩:=nE (c+1);rw[hx,hy] at hr⊢;obtain⟨cap,σ,li,tt,h1,h2,h3⟩:=h;have HL:=jh h1;have HT:=jh h2;have HK:=jh h3;have HN:=jh hN;have HR:=jh hr;have HB:=jh (And.intro hx (And.intro hy (And.intro ha (And.intro hc hac))));have wa:(a:Int)+1=(x:Int):=om;have wc:(c:Int)+1=(y:Int):=om;have bx:(0:Int)≤x∧(x:Int)<N∧(x:Int)≤1000001∧(0:Int)≤y∧(y:Int)<N∧(y:Int)≤1000001:=om;clear h1 h2 h3 hN hx hy hr hac;go_in;go_wp2_with fail;refine(Jt HL.out ha hc hn).mono ?_;rintro e w2 ⟨rfl,l2,o2⟩;have HL2:Hid (qd w2 b g n key A ed):=jh ⟨_,_,_,_,l2,HT.out,HK.out⟩;have eG:=jh (o2.mono (S':=[b,g]) (λj hj=>nomatch hj));clear l2 o2 HL HT HK;go_wp2_with fail;refine(LU HL2.out ha hc HB.out.2.2.2.2 (by rw[HB.out.1,HB.out.2.1];exact HR.out) hn).mono ?_;rintro e w3 ⟨rfl,l3,o3⟩;obtain⟨cap,σ,li,tt,h1,h2,h3⟩:=l3;obtain⟨τ,e1,e2,e3,e4⟩:=Vp h2 (a:=x) (b:=y) (oC HB.out) HR.out;have iH:=jh h1;have HK:=jh h3;have dh:=jh (eG.out.trans o3 (λj hj=>.inl (by simp at hj;simp[hj])));have H1:=jh e1;have H2:=jh e2;have H3:=jh e3;have H4:=jh e4;clear h1 h2 h3 o3 e1 e2 e3 e4 HL2 eG;go_wp2_with fail;refine(uD (i:=x) (j:=y) iH.out (oC HB.out) (oC HB.out) hn H1.out).mono ?_;rintro e w4 ⟨rfl,⟨l4,t4,h4⟩,o4⟩;have c1:=h4.c1;rw[HN.out] at c1;have k2:=h4.nr.c2 (i:=x) (oC HB.out);have f2:=h4.nr.fz (x*9+2);have k0:=h4.nr.c0 (i:=y) (oC HB.out);have f0:=h4.nr.fz (y*9);have oK:=jh h4;have jw:=jh (dh.out.trans o4 (λj hj=>.inl (by simp at hj;simp[hj])));clear h4 o4 iH dh;go_wp2_with fail;have h6:bT (w4.setCell ⟨g,x*9+2,none⟩ (.int .i64 0)) b g n cap (τ.put x { τ x with up:=0 }) l4 t4 ed:=oK.out.nodes ((Off.refl [g] w4).setCell (p:=⟨g,x*9+2,none⟩) sj _) (oK.out.nr.s2 x 0);have qp:=jh (h6.nodes ((Off.refl [g] _).setCell (p:=⟨g,y*9,none⟩) sj (.int .i64 0)) (h6.nr.s0 y 0));have nI:=jh ((jw.out.setCell (p:=⟨g,x*9+2,none⟩) sj (.int .i64 0)).setCell (p:=⟨g,y*9,none⟩) sj (.int .i64 0));clear c1 k2 f2 k0 f0 h6 oK jw;refine(aU (i:=y) qp.out H2.out hn).mono ?_;rintro e w8 ⟨rfl,⟨t8,h8⟩,o8⟩;have c2:=h8.c2;have f8:=h8.fr.frozen 2;have uW:=jh (h8.ab3 (wrap64 (ed-1)));have HO8:=jh ((nI.out.trans o8 (λj hj=>.inl (by simp at hj;simp[hj]))).setCell (p:=⟨b,2,none⟩) sj (.int .i64 (wrap64 (ed-1))));clear h8 o8 qp nI;go_wp2;go_ret;exact⟨rfl,⟨_,_,_,_,_,uW.out,H4.out,λz=>(H3.out z).trans (HK.out z)⟩,HO8.out⟩
end
def Ph (k:Nat):Sg:=λi=>if i≠0∧i≤k then⟨0,0,0,false,0,1,i⟩ else⟨0,0,0,false,0,0,0⟩
theorem Tryz.YT:(Tryz.prog.info? 211).map (λi=>(i.zero.map Value.cells,i.size,i.bytes))=some (some #[.int .i64 0,.int .i64 0,.int .i64 0,.bool false,.int .i64 0,.int .i64 0,.int .i64 0,.int .i64 0,.int .i64 0],9,72):=by kernel_rfl
theorem Dn (N:Nat) (hN:N≤1000001) (w:World):
  (Instr.makeSlice 212 (.int .i64 (N:Nat)) (.int .i64 (N:Nat))).run Tryz.prog w=.ok (.slice (some ⟨w.heap.size,0,none⟩) N N) (w.alloc (.cells (madeCells #[.int .i64 0,.int .i64 0,.int .i64 0,.bool false,.int .i64 0,.int .i64 0,.int .i64 0,.int .i64 0,.int .i64 0] (N*9)) 211)):=by
 obtain⟨i,hi,hzz⟩:=Option.map_eq_some_iff.1 Tryz.YT;simp only[Prod.mk.injEq] at hzz;obtain⟨hz,hs,hb⟩:=hzz;obtain⟨z,hz1,hz2⟩:=Option.map_eq_some_iff.1 hz;have hr:=run_make (P:=Tryz.prog) w 212 211 i z Tryz.underlying212 hi hz1 .i64 .i64 N N om (Int.le_refl _) (by rw[hb];omega) om;simp only[Int.toNat_natCast,hs,hz2] at hr;exact hr
theorem Pg (k i:Nat) (h:i=0∨k<i):Ph k i=⟨0,0,0,false,0,0,0⟩:=if_neg om
theorem Ux (k:Nat):dM (Ph k) (k+1)=Ph (k+1):=by
 funext i
 have e:=Pg k (k+1) (.inr om);unfold dM Sg.put;rw[e]
 split
 ·rename_i h;rw[h];exact(if_pos om).symm
 ·rename_i h;unfold Ph
  by_cases c:i≠0∧i≤k
  ·rw[if_pos c,if_pos om]
  ·rw[if_neg c,if_neg om]
theorem Yq (n k:Nat) (h:k<n):kN n (Ph k) (k+1):=by
 have e:=Pg k (k+1) (.inr om)
 refine⟨om,om,?_,?_,?_,?_,?_,?_⟩<;>rw[e]
 ·exact Nat.zero_le _
 ·exact Nat.zero_le _
 ·exact(Nat.succ_ne_zero k).symm
 ·exact(Nat.succ_ne_zero k).symm
 ·exact λh=>absurd rfl h
 ·exact λh=>absurd rfl h
theorem Uw (n i:Nat) (h:i≤n):Ph n i=sg0 i:=by
 unfold Ph sg0
 by_cases c:i=0
 ·subst c;simp
 ·rw[if_pos ⟨c,h⟩,if_neg c]
section
variable {w:World} {n:Nat}
theorem Vd (w:World) (n:Nat) (t:TypeId):fT (w.alloc (.cells (madeCells #[.int .i64 0,.int .i64 0,.int .i64 0,.bool false,.int .i64 0,.int .i64 0,.int .i64 0,.int .i64 0,.int .i64 0] ((n+1)*9)) t)) w.heap.size n (Ph 0) (λ_=>0) (λ_=>0):=by
 refine⟨_,t,heap_alloc_new _ _,λi hi=>?_⟩;have e:Ph 0 (i / 9)=⟨0,0,0,false,0,0,0⟩:=if_neg om;unfold ndC madeCells;rw[e];have h9:i%9<9:=Nat.mod_lt _ (by decide);simp only[Array.getElem?_map,Array.getElem?_range,show i<(n+1)*9 by omega,if_true,Option.map_some]
 congr 1
 show(#[Value.int .i64 0,.int .i64 0,.int .i64 0,.bool false,.int .i64 0,.int .i64 0,.int .i64 0,.int .i64 0,.int .i64 0]:Array Value)[i%9]! =_;generalize i%9=r at h9
 match r,h9 with
 |0,_=>rfl
 |1,_=>rfl
 |2,_=>rfl
 |3,_=>rfl
 |4,_=>rfl
 |5,_=>rfl
 |6,_=>rfl
 |7,_=>rfl
 |8,_=>rfl
 |k+9,e=>omega
theorem QC (w:World) (hn:n≤65536):
  Calls Tryz.prog 77 #[.int .i64 (n:Nat)] w λe w'=>∃b g,e=.returned (.tuple #[.pointer (some ⟨b,0,none⟩),.int .i64 0])∧qd w' b g n (λ_=>0) (λ_ _=>False) 0∧Off [] w w'∧w.heap.size≤b∧w.heap.size≤g:=by
 obtain⟨N,hN⟩:=nE (n+1);have HN:=jh hN;have wa:(n:Int)+1=(N:Int):=om;have bx:(0:Int)≤n∧(n:Int)≤65536∧(1:Int)≤N∧(N:Int)≤65537:=om;have d1:decide ((n:Int)<0)=false:=dF om;have d2:decide ((65536:Int)<n)=false:=dF om;have hmk:=Dn N om;clear hN;go_in;go_wp2_with fail;rw[show N*9=(n+1)*9 by rw[HN.out]];generalize hW:((w.alloc (.cells (madeCells #[.int .i64 0,.int .i64 0,.int .i64 0,.bool false,.int .i64 0,.int .i64 0,.int .i64 0,.int .i64 0,.int .i64 0] ((n+1)*9)) 211)).alloc (.cells #[.pointer (some ⟨w.heap.size+1,0,none⟩),.slice (some ⟨w.heap.size,0,none⟩) N N,.int .i64 0] 214))=W
 have hL:bT W (w.heap.size+1) w.heap.size n N (Ph 0) (λ_=>0) (λ_=>0) 0:=by
  rw[←hW,←HN.out];refine⟨?_,(Vd w n _).of_block (Below.heap_alloc _ _ _ sj),om⟩;have:=Row.lit (n:=3) (f:=λi=>(#[Value.pointer (some ⟨w.heap.size+1,0,none⟩),.slice (some ⟨w.heap.size,0,none⟩) (n+1:Nat) (n+1),.int .i64 0]:Array Value).getD i undef) (w.alloc (.cells (madeCells #[.int .i64 0,.int .i64 0,.int .i64 0,.bool false,.int .i64 0,.int .i64 0,.int .i64 0,.int .i64 0,.int .i64 0] ((n+1)*9)) 211)) #[.pointer (some ⟨w.heap.size+1,0,none⟩),.slice (some ⟨w.heap.size,0,none⟩) (n+1:Nat) (n+1),.int .i64 0] 214 (Nat.le_refl _) lC;simpa using this
 have hO:Off [] w W:=by rw[←hW];exact((Off.refl [] w).alloc _).alloc _
 have HL:=jh hL;have HO:=jh hO;clear hW hL hO hmk
 go_loopg [22] n (λM iv wr=>∃i li tt,M+i=n∧iv=.int .i64 i∧Hid (bT wr (w.heap.size+1) w.heap.size n N (Ph i) li tt 0)∧Hid (Off [] w wr))
 case atStart=>exact⟨0,_,_,rfl,rfl,HL,HO⟩
 case round=>
  clear HL HO;obtain⟨i,li,tt,hM,rfl,HL,HO⟩:=hrel
  by_cases c0:i<n
  ·have d0:decide ((i:Int)<n)=true:=dP om;obtain⟨j,hj⟩:=nE (i+1);have wj:(i:Int)+1=(j:Int):=om;have bj:(0:Int)≤j∧(j:Int)≤65536:=om;have HX:=jh (aU (i:=i+1) HL.out (Yq n i c0) om);rw[Ux,hj] at HX;have HJ:=jh hj;clear hj;go_wp2_with fail;apply mO HX;rintro e w3 ⟨rfl,⟨t3,l3⟩,o3⟩;have iH:=jh l3;have dh:=jh (HO.out.trans o3 (λq hq=>.inr (by simp at hq;omega)));clear l3 o3;go_wp2
   go_roundg (n-j)
   case measure=>have:=HJ.out;omega
   case rel=>exact⟨j,_,_,oC HJ.out,rfl,iH,dh⟩
  ·have d0:decide ((i:Int)<n)=false:=dF om;obtain rfl:i=n:=om;go_wp2;go_ret2;refine⟨w.heap.size+1,w.heap.size,rfl,⟨N,sg0,li,tt,⟨HL.out.fr,Row.congr HL.out.nr λx hx=>?_,HL.out.ne⟩,QI i,λ_=>rfl⟩,HO.out,om,Nat.le_refl _⟩;unfold ndC;rw[Uw _ _ om]
end
def TH (l:List Int) (p q:Nat):List Int:=(l.set p (aJ l q)).set q (aJ l p)
theorem JE {l:List Int} {p:Nat} (hp:p<l.length) (v:Int) (x:Nat):aJ (l.set p v) x=if x=p then v else aJ l x:=by
 unfold aJ;rw[List.getD_eq_getElem?_getD,List.getElem?_set]
 by_cases c:x=p
 ·rw[if_pos c.symm,if_pos c,if_pos hp];rfl
 ·rw[if_neg (λe=>c e.symm),if_neg c,List.getD_eq_getElem?_getD]
theorem Yn {l:List Int} {p q:Nat} (hp:p<l.length) (hq:q<l.length) (x:Nat):aJ (TH l p q) x=if x=q then aJ l p else if x=p then aJ l q else aJ l x:=by
 unfold TH;rw[JE (by rw[List.length_set];exact hq),JE hp]
theorem Oz {l:List Int} {p q:Nat} (hp:p<l.length) (hq:q<l.length):(TH l p q).Perm l:=by
 have h:=Array.swap_perm (xs:=l.toArray) (i:=p) (j:=q) (by simpa using hp) (by simpa using hq);rw[List.swap_toArray,Array.perm_iff_toList_perm] at h
 have e:TH l p q=(l.set p l[q]).set q l[p]:=by
  unfold TH aJ;simp[List.getD,hp,hq]
 rw[e];exact h
def Ii (l:List Int) (n:Nat):Prop:=∀a b,a<b→b<n→aJ l a≤aJ l b
def uU (l:List Int) (j i:Nat):Prop:=(∀a b,a<b→b≤i→a≠j→b≠j→aJ l a≤aJ l b)∧∀b,j<b→b≤i→aJ l j≤aJ l b
theorem uU.start {l:List Int} {i:Nat} (h:Ii l i):uU l i i:=⟨λa b h1 h2 _ h4=>h a b h1 om,λb h1 h2=>om⟩
theorem uU.low {l:List Int} {i:Nat} (h:uU l 0 i):Ii l (i+1):=λa b h1 h2=>by
 by_cases c:a=0
 ·subst c;exact h.2 b h1 om
 ·exact h.1 a b h1 om c om
theorem uU.stop {l:List Int} {i j:Nat} (h:uU l (j+1) i) (hle:aJ l j≤aJ l (j+1)):Ii l (i+1):=λa b h1 h2=>by
 by_cases c:a=j+1
 ·subst c;exact h.2 b h1 om
 ·by_cases d:b=j+1
  ·subst d
   by_cases e:a=j
   ·subst e;exact hle
   ·exact Int.le_trans (h.1 a j om om c om) hle
  ·exact h.1 a b h1 om c d
theorem uU.step {l:List Int} {i j:Nat} (h:uU l (j+1) i) (hj:j+1≤i) (hi:i<l.length) (hlt:aJ l (j+1)<aJ l j):uU (TH l (j+1) j) j i:=by
 have at':∀x,aJ (TH l (j+1) j) x=if x=j then aJ l (j+1) else if x=j+1 then aJ l j else aJ l x:=Yn om om
 refine⟨λa b h1 h2 h3 h4=>?_,λb h1 h2=>?_⟩
 ·rw[at',at',if_neg h3,if_neg h4]
  by_cases c:a=j+1
  ·subst c;rw[if_pos rfl,if_neg om];exact h.1 j b om h2 om om
  ·rw[if_neg c]
   by_cases d:b=j+1
   ·subst d;rw[if_pos rfl];exact h.1 a j om om c om
   ·rw[if_neg d];exact h.1 a b h1 h2 c d
 ·rw[at',at',if_pos rfl,if_neg om]
  by_cases d:b=j+1
  ·subst d;rw[if_pos rfl];omega
  ·rw[if_neg d];exact h.2 b om h2
theorem Ii.sorted {l:List Int} (h:Ii l l.length):l.Pairwise (·≤·):=by
 rw[List.pairwise_iff_getElem];intro a b ha hb hab;have:=h a b hab hb;unfold aJ at this;simpa [List.getD,ha,hb] using this
def gy (base:Nat) (v:Value) (l:List Int) (w:World):Prop:=w.ownsRow base 25 1 v l.length (jL l)
theorem gy.set {w:World} {base g cap n:Nat} {l:List Int} (h:gy base (.slice (some ⟨g,0,none⟩) n cap) l w) (hn:l.length=n) {p:Nat} (x:Int):gy base (.slice (some ⟨g,0,none⟩) n cap) (l.set p x) (w.setCell ⟨g,p,none⟩ (.int .u64 x)):=by
 unfold gy at*;subst hn;have:=AZ h (i:=p) (.int .u64 x);rw[List.length_set]
 rwa [show(jL l).set p (.int .u64 x)=jL (l.set p x) from by unfold jL;rw[List.map_set]] at this
theorem gy.keep {w w':World} {base g cap n:Nat} {l:List Int} (h:gy base (.slice (some ⟨g,0,none⟩) n cap) l w) (e:w'.heap[g]?=w.heap[g]?):gy base (.slice (some ⟨g,0,none⟩) n cap) l w':=aG h λx hx=>by cases hx;exact e
theorem gy.dn {w:World} {base g cap n:Nat} {l:List Int} (h:gy base (.slice (some ⟨g,0,none⟩) n cap) l w) (q:Nat):gy base (.slice (some ⟨g,0,none⟩) n cap) l (w.drewN q):=h.keep sj
theorem gy.cell {w:World} {base g cap n:Nat} {l:List Int} (h:gy base (.slice (some ⟨g,0,none⟩) n cap) l w) (hn:l.length=n) {p:Nat} (hp:p<n):w.cell? ⟨g,p,none⟩=some (.int .u64 (aJ l p))∧w.frozen? ⟨g,p,none⟩=false:=by
 unfold gy at*;subst hn;exact lG h (IU hp)
theorem Sk (x:Int) (w:World):Calls Tryz.prog 119 #[.int .u64 x] w λe w'=>e=.returned (.bool false)∧w'=w:=by
 go_in
 go_wp2
 go_ret;simp
theorem DY (x y:Int) (w:World):Calls Tryz.prog 113 #[.int .u64 x,.int .u64 y] w λe w'=>e=.returned (.bool (decide (x<y)))∧w'=w:=by
 have HN:=λz=>jh (Sk z w);go_in;go_wp2_with fail;refine(HN x).out.mono ?_;rintro e w1 ⟨rfl,rfl⟩;go_wp2;go_ret;exact⟨rfl,rfl⟩
theorem QY {base g cap n:Nat} {l:List Int} {w:World} (h:gy base (.slice (some ⟨g,0,none⟩) n cap) l w) (hn:l.length=n) (hb:n≤4096):
  Calls Tryz.prog 225 #[.slice (some ⟨g,0,none⟩) n cap,.int .i64 0,.int .i64 (n:Nat)] w λe w'=>e=.returned (.tuple #[])∧∃l',l'.Perm l∧l'.Pairwise (·≤·)∧gy base (.slice (some ⟨g,0,none⟩) n cap) l' w'∧Off [g] w w':=by
 have H:=jh h;have HN:=jh hn;have HB:=jh hb;have bn:(0:Int)≤n∧(n:Int)≤4096:=om;clear h hn hb;go_in;go_wp2
 go_loopg [6] n (λM iv wr=>∃(k:Nat) (l':List Int),M+k=n∧iv=.int .i64 ((k+1:Nat):Int)∧Hid (l'.Perm l)∧Hid (Ii l' (k+1))∧Hid (gy base (.slice (some ⟨g,0,none⟩) n cap) l' wr)∧Hid (Off [g] w wr))
 case atStart=>exact⟨0,l,rfl,rfl,jh (List.Perm.refl _),jh λa b h1 h2=>om,H,jh (Off.refl _ _)⟩
 case round=>
  obtain⟨k,l1,hM,rfl,HP,HS,HO,HF⟩:=hrel;obtain⟨i,hi⟩:=nE (k+1);rw[hi] at HS⊢;have HI:=jh hi
  by_cases hlt:i<n
  ·have d1:decide ((i:Int)<n)=true:=dP om;have d1':decide (i<n)=true:=dP hlt;have bi:(0:Int)≤i∧(i:Int)≤4096:=om;have HL:=jh hlt;have HM:=jh hM;clear hM hi hlt;go_wp2_with fail
   rename World=>wq
   go_loopg [7] i (λM2 jv wr=>∃(j:Nat) (l':List Int),M2=j∧j≤i∧jv=.int .i64 j∧Hid (l'.Perm l)∧Hid (uU l' j i)∧Hid (gy base (.slice (some ⟨g,0,none⟩) n cap) l' wr)∧Hid (Off [g] w wr))
   case atStart=>exact⟨i,l1,rfl,Nat.le_refl _,rfl,HP,jh (uU.start HS.out),HO,HF⟩
   case round=>
    clear HP HS HO HF;obtain⟨j,l2,hm2,hji,rfl,HP,HS,HO,HF⟩:=hrel;have kG:=jh hm2;clear hm2;have hl2:l2.length=n:=HP.out.length_eq.trans HN.out
    rcases Nat.eq_zero_or_pos j with hj |hj
    ·subst hj;clear hl2 hji;go_wp2
     go_quiet (fail)
     go_wp2_with fail;obtain⟨i2,hi2⟩:=nE (i+1);have w2:(i:Int)+1=(i2:Int):=om;have HI2:=jh hi2;clear hi2;go_wp2
     go_roundg (n-i)
     case measure=>have:=HI.out;have:=HM.out;have:=HL.out;omega
     case rel=>exact⟨i,l2,oC HL.out,by have:=HI2.out;rw[w2,this],HP,jh (HS.out.low),HO,HF.out.drewN _⟩
    ·obtain⟨p,hpj⟩:∃p,p+1=j:=⟨j-1,om⟩;have HJ:=jh hpj;have d2:decide ((0:Int)<(j:Int))=true:=dP om;have d2':decide (0<j)=true:=dP hj;have w1:(j:Int)-1=(p:Int):=om;have c1:=λq=>((HO.out.dn q).cell (p:=p) hl2 (oC HL.out)).1;have c2:=λq=>((HO.out.dn q).cell (p:=j) hl2 (oC HL.out)).1;have bj:(0:Int)≤j∧(j:Int)<n:=oC HL.out;have bp:(0:Int)≤p∧(p:Int)<n:=oC HL.out;have Iw:=jh hl2;have HJI:=jh hji;clear hl2 hpj hji hj
     by_cases hcmp:aJ l2 j<aJ l2 p
     ·have d3:decide (aJ l2 j<aJ l2 p)=true:=dP hcmp;have HC:=jh hcmp;clear hcmp;go_wp2
      go_quiet ((go_at_call 113;exact Calls.quiet_of_same (DY _ _ _)))
      go_wp2_with fail;clear c1 c2;generalize hW:wr.drewN nq=W;have fK:Hid (gy base (.slice (some ⟨g,0,none⟩) n cap) l2 W):=jh (hW▸HO.out.dn nq);have HF1:Hid (Off [g] w W):=jh (hW▸HF.out.drewN nq);clear hW HO HF;have x1:=fK.out.cell (p:=p) Iw.out om;have x2:=fK.out.cell (p:=j) Iw.out om;have y1:=(fK.out.set Iw.out (p:=j) (aJ l2 p)).cell (p:=p) (by rw[List.length_set];exact Iw.out) om;have eG:gy base (.slice (some ⟨g,0,none⟩) n cap) (TH l2 j p) ((W.setCell ⟨g,j,none⟩ (.int .u64 (aJ l2 p))).setCell ⟨g,p,none⟩ (.int .u64 (aJ l2 j))):=(fK.out.set Iw.out (p:=j) (aJ l2 p)).set (by rw[List.length_set];exact Iw.out) (p:=p) (aJ l2 j);have yG:Off [g] w ((W.setCell ⟨g,j,none⟩ (.int .u64 (aJ l2 p))).setCell ⟨g,p,none⟩ (.int .u64 (aJ l2 j))).drew:=((HF1.out.setCell (p:=⟨g,j,none⟩) sj _).setCell (p:=⟨g,p,none⟩) sj _).drew;have dh:=jh (eG.keep (w':=((W.setCell ⟨g,j,none⟩ (.int .u64 (aJ l2 p))).setCell ⟨g,p,none⟩ (.int .u64 (aJ l2 j))).drew) rfl);have X7:=jh yG;clear eG yG;have HS2:=jh (uU.step (l:=l2) (j:=p) (by rw[HJ.out];exact HS.out) (by rw[HJ.out];exact HJI.out) (oD HL.out Iw.out) (by rw[HJ.out];exact HC.out));rw[HJ.out] at HS2;have HP2:=jh ((Oz (l:=l2) (p:=j) (q:=p) (oC Iw.out) (oC Iw.out)).trans HP.out);clear HS;have HS:True:=trivial;have ip:IntKind.i64.wrap (p:Int)=p:=(IntKind.wrap_i64 _).trans om;have ij:IntKind.i64.wrap (j:Int)=j:=(IntKind.wrap_i64 _).trans om;refine aj (λ_=>True) (by kernel_rfl) ?_;refine tC 0 ?_;refine tC 1 ?_;refine tC 2 ?_;refine tC 3 ?_;refine tC 4 ?_;refine tC 5 ?_;refine tC 6 ?_;refine tC 7 ?_;refine tC 8 ?_;refine tC 10 ?_;refine tC 11 ?_;refine tC 12 ?_
      try simp only[sD]
      refine Py [9,13] ?_;refine AllReadyH.cons rfl (λK hK=>?_) (AllReadyH.cons rfl (λK hK=>?_) AllReadyH.nil)
      ·go_simp;refine hK.out _ _ trivial (λ_=>?_);clear hK;refine rC 13 λK hK=>?_;go_simp;refine hK.out _ _ trivial (λ_=>?_);clear hK;refine tC 14 ?_
       try simp only[sD]
       refine rC 15 λK hK=>?_;go_simp;refine hK.out _ _ trivial (λ_=>?_);clear hK;refine tC 16 ?_
       try simp only[sD]
       refine rC 17 λK hK=>?_;go_simp;refine hK.out _ _ trivial (λ_=>?_);clear hK;refine dD ⟨rfl,?_⟩;go_wp2
       go_roundg p
       case measure=>have:=kG.out;have:=HJ.out;omega
       case rel=>exact⟨p,TH l2 j p,rfl,oD HJI.out HJ.out,rfl,HP2,HS2,dh,X7⟩
      ·go_simp;refine hK.out _ _ trivial (λ_=>?_);clear hK;refine rC 9 λK hK=>?_;go_simp;refine hK.out _ _ trivial (λ_=>?_);clear hK;refine tC 14 ?_
       try simp only[sD]
       refine rC 15 λK hK=>?_;go_simp;refine hK.out _ _ trivial (λ_=>?_);clear hK;refine tC 16 ?_
       try simp only[sD]
       refine rC 17 λK hK=>?_;go_simp;refine hK.out _ _ trivial (λ_=>?_);clear hK;refine dD ⟨rfl,?_⟩;go_wp2
       go_roundg p
       case measure=>have:=kG.out;have:=HJ.out;omega
       case rel=>exact⟨p,TH l2 j p,rfl,oD HJI.out HJ.out,rfl,HP2,HS2,dh,X7⟩
     ·have d3:decide (aJ l2 j<aJ l2 p)=false:=dF hcmp;have HC:=jh hcmp;clear hcmp;go_wp2
      go_quiet ((go_at_call 113;exact Calls.quiet_of_same (DY _ _ _)))
      go_wp2_with fail;clear c1 c2;obtain⟨i2,hi2⟩:=nE (i+1);have w2:(i:Int)+1=(i2:Int):=om;have HI2:=jh hi2;clear hi2;go_wp2
      go_roundg (n-i)
      case measure=>have:=HI.out;have:=HM.out;have:=HL.out;omega
      case rel=>exact⟨i,l2,oC HL.out,by have:=HI2.out;rw[w2,this],HP,jh (uU.stop (j:=p) (by rw[HJ.out];exact HS.out) (by rw[HJ.out];have:=HC.out;omega)),HO,HF.out.drewN _⟩
  ·have d1:decide ((i:Int)<n)=false:=dF om;have HX:=jh hlt;clear hM hi hlt;go_wp2;go_end0;exact⟨rfl,l1,HP.out,Ii.sorted (λa b h1 h2=>HS.out a b h1 (oD (HP.out.length_eq.trans HN.out) HX.out)),HO.out,HF.out⟩
end Go.Proofs.YtpaeogglppampaaGreatDoor
