/- Lemmas of the proof. Conditions: as each one states. -/
import Derived.Test.YtpaeogglppampaaGreatDoorQn
import Derived.Laws.Rows
set_option maxRecDepth 100000
set_option maxHeartbeats 16000000
namespace Go.Proofs.YtpaeogglppampaaGreatDoor
open Go.RowKit
section
variable {w:World} {f:bY} {S:Nat} {sv:Value} {pl:Nat→Nat} {L:List En}
def DR (L:List En):Value:=match L with
 |[]=>.tuple #[.agg #[.int .i64 0,.int .i64 0],.bool false]
 |a::_=>.tuple #[.agg #[.int .i64 (a.i:Nat),.int .i64 a.k],.bool true]
theorem Rh (m:eT w f S sv pl []):
  Calls Tryz.prog 83 #[.pointer (some ⟨f.h,0,none⟩)] w λe w'=>e=.returned (DR [])∧Off [] w w':=by
 obtain⟨a,cap,rfl⟩:=m.any;have m':eT (w.alloc (.cells #[.int .i64 0,.int .i64 0] 110)) f S (.slice a ([]:List En).length cap) pl []:=m.keep λj hj=>Below.heap_alloc _ _ _ (m.lt hj);have c2:(w.alloc (.cells #[.int .i64 0,.int .i64 0] 110)).cell? ⟨f.h,2,none⟩=some (.slice a 0 cap):=m'.c2;have HV:=jh (jZ m');have hB:Row (w.alloc (.cells #[.int .i64 0,.int .i64 0] 110)) w.heap.size 2 (λ_=>.int .i64 0):=Row.lit (n:=2) (f:=λ_=>.int .i64 0) w #[.int .i64 0,.int .i64 0] 110 (Nat.le_refl _) lC;have s0:=hB.c 0;have s1:=hB.c 1;have f0:=hB.frozen 0;have f1:=hB.frozen 1;clear m m' hB;show Calls _ _ _ _ λe w'=>e=.returned (.tuple #[.agg #[.int .i64 0,.int .i64 0],.bool false])∧Off [] w w';go_in;go_wp2_with fail;apply mO HV;rintro e w1 ⟨rfl,rfl⟩;go_wp2;refine bodyPost_ret (v:=.tuple #[.agg #[.int .i64 0,.int .i64 0],.bool false]) (by simp[results,Tryz.results83,go_sem,s0,s1]) rfl ?_;exact⟨rfl,(Off.refl _ _).alloc _⟩
theorem Md {x:En} {T:List En} (m:eT w f S sv pl (x::T)) (hT:T.length≤65536):
  Calls Tryz.prog 83 #[.pointer (some ⟨f.h,0,none⟩)] w λe w'=>e=.returned (DR (x::T))∧Off [] w w':=by
 obtain⟨g,cap,rfl,hg⟩:=m.sl sj;obtain⟨W,hW⟩:∃W,w.alloc (.cells #[.int .i64 0,.int .i64 0] 110)=W:=⟨_,rfl⟩
 have hO:Off [] w W:=by rw[←hW];exact(Off.refl _ _).alloc _
 have hB:Row W w.heap.size 2 (λ_=>.int .i64 0):=by
  rw[←hW];exact Row.lit _ _ _ (Nat.le_refl _) lC
 replace m:eT W f S _ pl (x::T):=m.keep λj hj=>by rw[←hW];exact Below.heap_alloc _ _ _ (m.lt hj)
 have b0:=hB.c 0;have b1:=hB.c 1;have g0:=hB.frozen 0;have g1:=hB.frozen 1;have hB1:=hB.set 0 (.int .i64 x.i);have b2:(W.setCell ⟨w.heap.size,0,none⟩ (.int .i64 x.i)).cell? ⟨w.heap.size,1,none⟩=some (.int .i64 0):=hB1.c 1;have g2:=hB1.frozen 1;have hB2:=hB1.set 1 (.int .i64 x.k);have s0:((W.setCell ⟨w.heap.size,0,none⟩ (.int .i64 x.i)).setCell ⟨w.heap.size,1,none⟩ (.int .i64 x.k)).cell? ⟨w.heap.size,0,none⟩=some (.int .i64 x.i):=hB2.c 0;have s1:((W.setCell ⟨w.heap.size,0,none⟩ (.int .i64 x.i)).setCell ⟨w.heap.size,1,none⟩ (.int .i64 x.k)).cell? ⟨w.heap.size,1,none⟩=some (.int .i64 x.k):=hB2.c 1;have HO:=jh hO;have HW:=jh hW;clear hO hB hW hB1 hB2;have c2:=m.c2;have x0:=(aD m.ow (bB (p:=0) sj).1).1;have x1:=(aD m.ow (bB (p:=0) sj).2).1;have HV:=jh (jZ m);obtain⟨N,hN⟩:=nE ((x::T).length)
 have hNb:(0:Int)<N∧(N:Int)≤65537:=by simp only[List.length_cons] at hN;omega
 rw[hN] at c2;have hd:aB (x::T) 0=x:=rfl;rw[hd] at x0 x1;rw[Nat.zero_mul] at x0 x1;rw[Nat.zero_add] at x1
 have d0:((N:Int)==0)=false:=by simp;omega
 have d1:(N==0)=false:=by simp;omega
 clear m hg hN hd hT;show Calls _ _ _ _ λe w'=>e=.returned (.tuple #[.agg #[.int .i64 x.i,.int .i64 x.k],.bool true])∧Off [] w w';go_in;go_wp2_with fail;rw[HW.out];apply mO HV;rintro e w1 ⟨rfl,rfl⟩;go_wp2;refine bodyPost_ret (v:=.tuple #[.agg #[.int .i64 x.i,.int .i64 x.k],.bool true]) (by simp[results,Tryz.results83,go_sem,s0,s1]) rfl ?_;exact⟨rfl,((HO.out.mono (S':=[w.heap.size]) (λj hj=>by cases hj)).setCell (p:=⟨w.heap.size,0,none⟩) sj _ |>.setCell (p:=⟨w.heap.size,1,none⟩) sj _).mono λj hj=>.inr (by simp at hj;omega)⟩
theorem Mf (h:oI w f S L) (h0:0<L.length) (hS:S≤65535):
  Calls Tryz.prog 99 #[.pointer (some ⟨f.h,0,none⟩),.int .i64 0] w λe w'=>e=.returned (.tuple #[])∧∃f' L',oI w' f' S L'∧(∀e,e∈L'↔e∈L∧e.i≠(aB L 0).i)∧L'.length+1=L.length∧yF f f' S w w':=by
 obtain⟨sv,pl,m,o,hp⟩:=h;obtain⟨n,hn⟩:∃n,L.length=n+1:=⟨L.length-1,om⟩;obtain⟨g,cap,rfl,hg⟩:=m.sl h0;have hle:=o.le
 have hcap:L.length≤cap:=by
  rcases m.ow.2 with⟨e,_⟩ |⟨g',cap',cur,e,_,_,hc,_⟩
  ·cases e
  ·cases e;exact hc
 have c2:=m.c2;obtain⟨N,hN⟩:=nE (n+1);have bn:(0:Int)≤n∧(n:Int)<N∧(N:Int)≤65536:=om;have wn:(N:Int)-1=(n:Int):=om;have HX:=jh (uI m (p:=0) (q:=n) om om om om o.lt);rw[hn,hN] at c2;have hcap2:n≤cap:=om;have ali:(n:Int)≤cap:=om;clear hcap;have HM:=jh m;have HO:=jh o;have HP:=jh hp;have HN:=jh (And.intro hn (And.intro hN (And.intro hle hS)));clear m o hp h0 hg hle hS hn hN;go_in;go_wp2_with fail;apply mO HX;rintro e w1 ⟨rfl,f1,m1,g1,o1⟩
 replace m1:eT w1 f1 S (.slice (some ⟨g,0,none⟩) (dG L 0 n).length cap) (UZ L pl 0 n) (dG L 0 n):=by rw[aI];exact m1
 have hl1:(dG L 0 n).length=N:=by rw[aI,HN.out.1,HN.out.2.1]
 have hsh:f1.h=f.h:=o1.sh;have c2:=m1.c2;rw[hl1,hsh] at c2;have y0:=(aD m1.ow (bB (p:=n) (by rw[hl1];have:=HN.out;omega)).1).1
 have hlast:aB (dG L 0 n) n=aB L 0:=by rw[bA (oC HN.out) (oC HN.out),if_pos rfl]
 rw[hlast] at y0;have NQ:=jh (lN m1 (i:=(aB L 0).i) (p:=-1) (v:=0) (HO.out.lt 0 (oC HN.out)) (oC HN.out) rfl om);rw[hsh] at NQ;have H1:=jh hl1;have O1:=jh o1;have HL:=jh hlast;have HSh:=jh hsh;clear m1 g1 o1 hl1 hsh hlast HX;obtain⟨i0,hi0⟩:=nE ((aB L 0).i);rw[hi0] at y0 NQ;have HI:=jh hi0;clear hi0;go_wp2_with fail;apply mO NQ;rintro e w2 ⟨rfl,f2,m2,g2,o2⟩;have hsh:f2.h=f.h:=o2.sh.trans HSh.out;have c2:=m2.c2;have c2f:=m2.hr.frozen 2;rw[H1.out,hsh] at c2;rw[hsh] at c2f;have hcut:=m2.cut (m:=n) (by rw[H1.out];have:=HN.out;omega);rw[hsh] at hcut;have M3:=jh hcut.1;have O3:=jh hcut.2;have O2:=jh o2;have ajm:=jh hsh
 have hpo:gU S (λj=>if j=i0 then 0 else UZ L pl 0 n j) ((dG L 0 n).take n):=by
  have:=(HO.out.swp (p:=0) (q:=n) (oC HN.out) (oC HN.out)).cut (m:=n) (by rw[H1.out];have:=HN.out;omega);rw[HL.out,HI.out] at this;exact this
 have PO:=jh hpo
 have MM:Hid (∀e,e∈(dG L 0 n).take n↔e∈L∧e.i≠i0):=jh λe=>by
  have hlt:((dG L 0 n).take n).length=n:=by rw[List.length_take,H1.out];have:=HN.out;omega
  have ea:∀p<n,aB ((dG L 0 n).take n) p=if p=0 then aB L n else aB L p:=λp hp=>by
   have:aB ((dG L 0 n).take n) p=aB (dG L 0 n) p:=by
    unfold aB;rw[List.getD_eq_getElem?_getD,List.getElem?_take,if_pos hp,List.getD_eq_getElem?_getD]
   rw[this,bA (oC HN.out) (oC HN.out),if_neg om]
  have inj:∀p<L.length,(aB L p).i=i0→p=0:=λp hp e=>HO.out.inj hp (oC HN.out) (e.trans HI.out.symm);rw[su,su,hlt];constructor
  ·rintro⟨p,hp,h⟩;rw[ea p hp] at h
   by_cases c:p=0
   ·rw[if_pos c] at h;exact⟨⟨n,oC HN.out,h⟩,λe=>by rw[←h] at e;have:=inj n (oC HN.out) e;omega⟩
   ·rw[if_neg c] at h;exact⟨⟨p,oC HN.out,h⟩,λe=>by rw[←h] at e;exact c (inj p (oC HN.out) e)⟩
  ·rintro⟨⟨p,hp,h⟩,hne⟩;have hp0:p≠0:=λc=>hne (by rw[←h,c];exact HI.out)
   by_cases c:p=n
   ·exact⟨0,om,by rw[ea 0 om,if_pos rfl,←c];exact h⟩
   ·exact⟨p,oC HN.out,by rw[ea p (oC HN.out),if_neg hp0];exact h⟩
 clear m2 g2 o2 hcut hpo NQ hsh
 by_cases hn0:n=0
 ·subst hn0
  have HH:Hid (Hp ((dG L 0 0).take 0)):=jh λc c0 hc=>by simp at hc
  have d0:decide ((0:Int)<((0:Nat):Int))=false:=rfl;go_wp2;go_end0;exact⟨rfl,f2,_,⟨_,_,M3.out,PO.out,HH.out⟩,λe=>(by rw[HI.out];exact MM.out e),(by rw[HN.out.1,List.length_take];simp),(O1.out.trans O2.out).trans O3.out⟩
 ·have d0:decide ((0:Int)<(n:Int))=true:=dP om;have d1:decide (0<n)=true:=dP om
  have hD:WO ((dG L 0 n).take n) 0:=by
   have:=HP.out.pop (oC HN.out)
   rwa [show L.length-1=n by have:=HN.out;omega] at this
  obtain⟨k2,L2,p2,s2,hp2,len2,mem2⟩:=hD.sift;have s1:Ud Ib 0 ((dG L 0 n).take n) 0 ((dG L 0 n).take n) 0:=⟨if_neg om,rfl,rfl⟩;have HY:=jh (u6 M3.out PO.out s1 s2 hD.lt (by rw[List.length_take];have:=HN.out;omega) (oC HN.out));rw[ajm.out] at HY;have HL2:Hid (L2.length+1=L.length):=jh (by rw[len2,List.length_take,H1.out];have:=HN.out;omega);have HP2:=jh hp2;have MM2:=jh mem2;clear hn0 hD s1 s2 hp2 mem2 len2;go_wp2_with fail;apply mO HY;rintro e w4 ⟨rfl,f4,pl4,m4,po4,o4⟩;have M4:=jh m4;have PO4:=jh po4;have O4:=jh o4;clear m4 po4 o4 HY;go_wp2;go_end0;exact⟨rfl,f4,L2,⟨_,pl4,M4.out,PO4.out,HP2.out⟩,λe=>(by rw[HI.out];exact(MM2.out e).trans (MM.out e)),HL2.out,((O1.out.trans O2.out).trans O3.out).trans O4.out⟩
end
section
variable {w:World} {f:bY} {S:Nat} {L:List En}
theorem sU (h:oI w f S L) (hS:S≤65536):
  Calls Tryz.prog 83 #[.pointer (some ⟨f.h,0,none⟩)] w λe w'=>e=.returned (DR L)∧Off [] w w':=by
 obtain⟨sv,pl,m,o,_⟩:=h
 cases L with
 |nil=>exact Rh m
 |cons x T=>exact Md m (by have:=o.le;simp only[List.length_cons] at this;omega)
theorem acW (h:oI w f S []) (hS:S≤65535):
  Calls Tryz.prog 54 #[.pointer (some ⟨f.h,0,none⟩)] w λe w'=>e=.returned (DR [])∧Off [] w w':=by
 obtain⟨W,hW⟩:∃W,w.alloc (.cells #[.int .i64 0,.int .i64 0] 110)=W:=⟨_,rfl⟩
 have hO:Off [] w W:=by rw[←hW];exact(Off.refl _ _).alloc _
 have hB:Row W w.heap.size 2 (λ_=>.int .i64 0):=by
  rw[←hW];exact Row.lit _ _ _ (Nat.le_refl _) lC
 have hk:oI W f S []:=h.keep λj hj=>by rw[←hW];exact Below.heap_alloc _ _ _ (h.lt j hj)
 have HM:Hid (Calls Tryz.prog 83 #[.pointer (some ⟨f.h,0,none⟩)] W λe w'=>e=.returned (.tuple #[.agg #[.int .i64 0,.int .i64 0],.bool false])∧Off [] W w'):=jh (sU hk om);have HO:=jh hO;have HB:=jh hB;have HW:=jh hW;clear hk hO hB hW h hS;show Calls _ _ _ _ λe w'=>e=.returned (.tuple #[.agg #[.int .i64 0,.int .i64 0],.bool false])∧Off [] w w';go_in;go_wp2_with fail;rw[HW.out];apply mO HM;rintro e w2 ⟨rfl,o2⟩;obtain⟨W3,hW3⟩:∃W3,w2.alloc (.cells #[.int .i64 0,.int .i64 0] 110)=W3:=⟨_,rfl⟩
 have hB2:Row W3 w.heap.size 2 (λ_=>.int .i64 0):=by rw[←hW3];exact(HB.out.of_block (o2.block _ HB.out.lt sj)).alloc _
 have hX:Row W3 w2.heap.size 2 (λ_=>.int .i64 0):=by
  rw[←hW3];exact Row.lit _ _ _ (Nat.le_refl _) lC
 have x0:=hX.c 0;have x1:=hX.c 1;have y0:=hX.frozen 0;have y1:=hX.frozen 1;have HW3:=jh hW3;have b0:=hB2.c 0;have b1:=hB2.c 1;have g0:=hB2.frozen 0;have hB3:=hB2.set 0 (.int .i64 0);have b2:(W3.setCell ⟨w.heap.size,0,none⟩ (.int .i64 0)).cell? ⟨w.heap.size,1,none⟩=some (.int .i64 0):=hB3.c 1;have g2:=hB3.frozen 1;have hB4:=hB3.set 1 (.int .i64 0);have s0:((W3.setCell ⟨w.heap.size,0,none⟩ (.int .i64 0)).setCell ⟨w.heap.size,1,none⟩ (.int .i64 0)).cell? ⟨w.heap.size,0,none⟩=some (.int .i64 0):=hB4.c 0;have s1:((W3.setCell ⟨w.heap.size,0,none⟩ (.int .i64 0)).setCell ⟨w.heap.size,1,none⟩ (.int .i64 0)).cell? ⟨w.heap.size,1,none⟩=some (.int .i64 0):=hB4.c 1;have eG:=jh (show Off [] w W3 by rw[←hW3];exact(HO.out.trans o2 λj hj=>by cases hj).alloc _);clear hB2 hB3 hB4 o2 HM HO HB HW hX hW3;rw[←HW3.out] at b0 b1 g0 b2 g2 s0 s1 x0 x1 y0 y1;go_wp2;refine bodyPost_ret (v:=.tuple #[.agg #[.int .i64 0,.int .i64 0],.bool false]) (by simp[results,Tryz.results54,go_sem,s0,s1]) rfl ?_;rw[HW3.out];exact⟨rfl,((eG.out.mono (S':=[w.heap.size]) (λj hj=>by cases hj)).setCell (p:=⟨w.heap.size,0,none⟩) sj _ |>.setCell (p:=⟨w.heap.size,1,none⟩) sj _).mono λj hj=>.inr (by simp at hj;omega)⟩
theorem zT {x:En} {T:List En} (h:oI w f S (x::T)) (hS:S≤65535):
  Calls Tryz.prog 54 #[.pointer (some ⟨f.h,0,none⟩)] w λe w'=>e=.returned (.tuple #[.agg #[.int .i64 (x.i:Nat),.int .i64 x.k],.bool true])∧∃f' L',oI w' f' S L'∧(∀e,e∈L'↔e∈x::T∧e.i≠x.i)∧L'.length=T.length∧yF f f' S w w':=by
 obtain⟨W,hW⟩:∃W,w.alloc (.cells #[.int .i64 0,.int .i64 0] 110)=W:=⟨_,rfl⟩
 have hO:Off [] w W:=by rw[←hW];exact(Off.refl _ _).alloc _
 have hB:Row W w.heap.size 2 (λ_=>.int .i64 0):=by
  rw[←hW];exact Row.lit _ _ _ (Nat.le_refl _) lC
 have hk:oI W f S (x::T):=h.keep λj hj=>by rw[←hW];exact Below.heap_alloc _ _ _ (h.lt j hj)
 have HM:Hid (Calls Tryz.prog 83 #[.pointer (some ⟨f.h,0,none⟩)] W λe w'=>e=.returned (.tuple #[.agg #[.int .i64 x.i,.int .i64 x.k],.bool true])∧Off [] W w'):=jh (sU hk om);have HO:=jh hO;have HB:=jh hB;have HW:=jh hW;have HK:=jh hk;have HS:=jh hS;have HF:Hid (∀j∈f.bl S,j<w.heap.size):=jh h.lt;clear hk hO hB hW h hS;go_in;go_wp2_with fail;rw[HW.out];apply mO HM;rintro e w2 ⟨rfl,o2⟩;obtain⟨W3,hW3⟩:∃W3,w2.alloc (.cells #[.int .i64 x.i,.int .i64 x.k] 110)=W3:=⟨_,rfl⟩
 have hk2:oI W3 f S (x::T):=HK.out.keep λj hj=>by rw[←hW3];exact(Below.heap_alloc _ _ _ (Nat.lt_of_lt_of_le (HK.out.lt j hj) o2.size)).trans (o2.block j (HK.out.lt j hj) sj)
 have HD:=jh (Mf hk2 sj HS.out)
 have hB2:Row W3 w.heap.size 2 (λ_=>.int .i64 0):=by rw[←hW3];exact(HB.out.of_block (o2.block _ HB.out.lt sj)).alloc _
 have hX:Row W3 w2.heap.size 2 (λi=>(#[Value.int .i64 x.i,.int .i64 x.k]:Array Value).getD i undef):=by
  rw[←hW3];exact Row.lit _ _ _ (Nat.le_refl _) lC
 have HB2:=jh hB2;have aj6:=jh hB2.lt;have HX:=jh hX;have HW3:=jh hW3;have eG:=jh (show Off [] w W3 by rw[←hW3];exact(HO.out.trans o2 λj hj=>by cases hj).alloc _);have uV:Hid (w.heap.size≤w2.heap.size):=jh (Nat.le_trans HO.out.size o2.size);clear hB2 o2 HM HO HB HW hk2 HK hX hW3
 go_wp2_with (rw[HW3.out])
 apply mO HD;rintro e w3 ⟨rfl,f3,L3,q3,m3,l3,o3⟩;have iH:Hid (L3.length=T.length):=jh (by simp only[List.length_cons] at l3;omega);clear l3;have hB2:Row w3 w.heap.size 2 (λ_=>.int .i64 0):=HB2.out.of_block (o3.off.block _ HB2.out.lt λc=>Nat.lt_irrefl _ (HF.out _ c));have hX:=HX.out.of_block (o3.off.block _ HX.out.lt λc=>oD (HF.out _ c) uV.out);have x0:=hX.c 0;have x1:=hX.c 1;have y0:=hX.frozen 0;have y1:=hX.frozen 1;have b0:=hB2.c 0;have b1:=hB2.c 1;have g0:=hB2.frozen 0;have hB3:=hB2.set 0 (.int .i64 x.i);have b2:(w3.setCell ⟨w.heap.size,0,none⟩ (.int .i64 x.i)).cell? ⟨w.heap.size,1,none⟩=some (.int .i64 0):=hB3.c 1;have g2:=hB3.frozen 1;have hB4:=hB3.set 1 (.int .i64 x.k);have s0:((w3.setCell ⟨w.heap.size,0,none⟩ (.int .i64 x.i)).setCell ⟨w.heap.size,1,none⟩ (.int .i64 x.k)).cell? ⟨w.heap.size,0,none⟩=some (.int .i64 x.i):=hB4.c 0;have s1:((w3.setCell ⟨w.heap.size,0,none⟩ (.int .i64 x.i)).setCell ⟨w.heap.size,1,none⟩ (.int .i64 x.k)).cell? ⟨w.heap.size,1,none⟩=some (.int .i64 x.k):=hB4.c 1;have Q3:=jh q3;have M3:=jh m3;have O3:=jh o3;clear hB2 hB3 hB4 q3 m3 o3 HD HB2 hX;go_wp2;refine bodyPost_ret (v:=.tuple #[.agg #[.int .i64 x.i,.int .i64 x.k],.bool true]) (by simp[results,Tryz.results54,go_sem,s0,s1]) rfl ?_;have nb3:∀j∈f3.bl S,j≠w.heap.size:=λj hj e=>(O3.out.fQ j hj).elim (λc=>oC (HF.out _ c)) λc=>oC aj6.out;refine⟨rfl,f3,L3,Q3.out.keep λj hj=>(aC j (nb3 j hj)).trans (aC j (nb3 j hj)),M3.out,iH.out,⟨?_,λj hj=>(O3.out.fQ j hj).imp id λe=>Nat.le_trans eG.out.size e,O3.out.sh⟩⟩;have a:Off (w.heap.size::f.bl S) w w3:=eG.out.mono (λj hj=>by cases hj) |>.trans O3.out.off λj hj=>.inl (List.mem_cons_of_mem _ hj);exact((a.setCell (p:=⟨w.heap.size,0,none⟩) sj _).setCell (p:=⟨w.heap.size,1,none⟩) sj _).mono λj hj=>(List.mem_cons.1 hj).elim (λe=>.inr om) .inl
theorem GI (h:oI w f S L) {i:Nat} (hi:i<S) (hn:∀e∈L,e.i≠i) (hS:S≤65535):
  Calls Tryz.prog 130 #[.pointer (some ⟨f.h,0,none⟩),.int .i64 (i:Nat)] w λe w'=>e=.returned (.tuple #[.int .i64 0,.int .i64 5])∧w'=w:=by
 obtain⟨sv,pl,m,o,hp⟩:=h;have hpl:=o.none_ hi hn;have HV:=jh (jZ m);have HHs:=jh (Er m hi);have XW:=jh (xG m hi om om);rw[hpl] at XW;clear m o hp hpl hi hn hS;go_in;go_wp2_with fail;apply mO HV;rintro e w1 ⟨rfl,rfl⟩;go_wp2_with fail;apply mO HHs;rintro e w1 ⟨rfl,rfl⟩;go_wp2_with fail;apply mO XW;rintro e w1 ⟨rfl,rfl⟩;go_wp2;go_ret2;exact⟨rfl,rfl⟩
theorem Me (h:oI w f S L) {i:Nat} (hi:i<S) (hn:∀e∈L,e.i≠i) (hS:S≤65535):
  Calls Tryz.prog 129 #[.pointer (some ⟨f.h,0,none⟩),.int .i64 (i:Nat)] w λe w'=>e=.returned (.tuple #[.int .i64 0,.bool false])∧w'=w:=by
 have HF:=jh (GI h hi hn hS);clear h hi hn hS;go_in;go_wp2_with fail;apply mO HF;rintro e w1 ⟨rfl,rfl⟩;go_wp2;go_ret2;exact⟨rfl,rfl⟩
end
theorem Tryz.Gr:(Tryz.prog.info? 229).map (λi=>(i.zero,i.size,i.bytes))=some (some (.pointer none),1,8):=by kernel_rfl
section
variable {w:World} {f:bY} {S:Nat} {L:List En}
theorem Em (w:World) (hS:S≤65536):
  Calls Tryz.prog 76 #[.int .i64 (S:Nat)] w λe w'=>∃f,e=.returned (.tuple #[.pointer (some ⟨f.h,0,none⟩),.int .i64 0])∧oI w' f S []∧Bo [] (f.bl S) w w':=by
 obtain⟨nb,hnb⟩:=nE ((S+63) / 64);obtain⟨S1,hS1⟩:=nE (S+64);obtain⟨S2,hS2⟩:=nE (S+63);have w1:(S:Int)+64=(S1:Int):=om;have w2:(S1:Int)-1=(S2:Int):=om;have b1:(0:Int)≤S∧(S:Int)≤65536∧(0:Int)≤S1∧(S1:Int)≤65600∧(0:Int)≤S2∧(S2:Int)≤65600∧(0:Int)≤nb∧(nb:Int)≤1024:=om
 have e1:(S2:Int).tdiv 64=nb:=by rw[Int.tdiv_eq_ediv_of_nonneg om];omega
 have d1:decide ((S:Int)<0)=false:=dF om;have d2:decide ((65536:Int)<S)=false:=dF om;have d3:decide (65536<S)=false:=dF om;have hmk:=run_make_row' (P:=Tryz.prog) 218 229 (.pointer none) 8 Tryz.underlying218 Tryz.Gr rfl .i64 .i64 nb om om w;have HN:=jh hnb;clear hnb hS1 hS2;go_in;go_wp2;go_ret2;generalize hW:((w.alloc (.cells (madeCells #[.pointer none] nb) 229)).alloc (.cells #[.pointer (some ⟨w.heap.size+1,0,none⟩),.int .i64 S,.slice none 0 0,.slice (some ⟨w.heap.size,0,none⟩) nb nb] 221))=W
 have r1:Row W w.heap.size nb (λ_=>.pointer none):=by rw[←hW];exact(Row.made w (.pointer none) nb _).alloc _
 have r2:Row W (w.heap.size+1) 4 (λi=>(#[Value.pointer (some ⟨w.heap.size+1,0,none⟩),.int .i64 S,.slice none 0 0,.slice (some ⟨w.heap.size,0,none⟩) nb nb]:Array Value).getD i undef):=by
  have:=Row.lit (n:=4) (f:=λi=>(#[Value.pointer (some ⟨w.heap.size+1,0,none⟩),.int .i64 S,.slice none 0 0,.slice (some ⟨w.heap.size,0,none⟩) nb nb]:Array Value).getD i undef) (w.alloc (.cells (madeCells #[.pointer none] nb) 229)) #[.pointer (some ⟨w.heap.size+1,0,none⟩),.int .i64 S,.slice none 0 0,.slice (some ⟨w.heap.size,0,none⟩) nb nb] 221 (Nat.le_refl _) lC;rw[←hW];simpa using this
 have hO:Off [] w W:=by rw[←hW];exact((Off.refl [] w).alloc _).alloc _
 refine⟨⟨w.heap.size+1,none,w.heap.size,λ_=>none⟩,rfl,⟨.slice none 0 0,λ_=>0,⟨?_,World.ownsRow_nil _ _ _ _,rfl,?_,λk _ c hc=>(by cases hc),λ_ _ _=>rfl,by show w.heap.size+1≠w.heap.size;omega,⟨sj,sj⟩,λk c _ hc=>(by cases hc),λk k' c _ _ hc=>(by cases hc)⟩,⟨λp hp=>absurd hp sj,λp hp=>absurd hp sj,λi _ h0=>absurd rfl h0⟩,λc _ hc=>absurd hc sj⟩,⟨hO,λj hj=>?_⟩⟩
 ·rw[HN.out];exact r2
 ·rw[HN.out];exact r1
 ·rcases bY.ak.1 hj with e |e |e |⟨k,_,e⟩
  ·exact .inr (by have:j=w.heap.size+1:=e;omega)
  ·cases e
  ·exact .inr (by have:j=w.heap.size:=e;omega)
  ·cases e
end
structure rz (w:World) (b:Nat) (f:bY) (S:Nat) (L:List En):Prop where
 hr:Row w b 2 (λi=>(#[Value.int .i64 (S:Nat),.pointer (some ⟨f.h,0,none⟩)]:Array Value).getD i undef)
 q:oI w f S L
 ne:b∉f.bl S
section
variable {w w':World} {b:Nat} {f:bY} {S:Nat} {L:List En}
theorem rz.c0 (h:rz w b f S L):w.cell? ⟨b,0,none⟩=some (.int .i64 (S:Nat)):=h.hr.c 0
theorem rz.c1 (h:rz w b f S L):w.cell? ⟨b,1,none⟩=some (.pointer (some ⟨f.h,0,none⟩)):=h.hr.c 1
theorem rz.lt (h:rz w b f S L):∀j∈b::f.bl S,j<w.heap.size:=λj hj=>by
 rcases List.mem_cons.1 hj with rfl |hj
 ·exact h.hr.lt
 ·exact h.q.lt j hj
theorem rz.keep (h:rz w b f S L) (e:∀j∈b::f.bl S,w'.heap[j]?=w.heap[j]?):rz w' b f S L:=
 ⟨h.hr.of_block (e _ sj),h.q.keep λj hj=>e j (by simp[hj]),h.ne⟩
theorem rz.turn {f':bY} {L':List En} (h:rz w b f S L) (q:oI w' f' S L') (o:yF f f' S w w'):rz w' b f' S L'∧Bo (b::f.bl S) (b::f'.bl S) w w':=by
 have far:=o.bo.far (C:=[b]) (λj hj=>by simp at hj;rw[hj];exact h.hr.lt) (λj hj=>by simp at hj;rw[hj];exact h.ne);refine⟨⟨?_,q,far.2 b sj⟩,⟨o.off.mono λj hj=>.inl (List.mem_cons_of_mem _ hj),λj hj=>?_⟩⟩
 ·rw[o.sh];exact h.hr.of_block (far.1 b sj)
 ·rcases List.mem_cons.1 hj with rfl |hj
  ·exact .inl sj
  ·exact(o.fQ j hj).imp (λe=>List.mem_cons_of_mem _ e) id
theorem mG (h:rz w b f S L):
  Calls Tryz.prog 51 #[.pointer (some ⟨b,0,none⟩)] w λe w'=>e=.returned (.bool true)∧w'=w:=by
 have c1:=h.c1;clear h;go_in;go_wp2;go_ret;exact⟨rfl,rfl⟩
theorem Vh (L:List En):∃(i k:Int) (t:Bool),DR L=.tuple #[.agg #[.int .i64 i,.int .i64 k],.bool t]:=by
 cases L with
 |nil=>exact⟨0,0,false,rfl⟩
 |cons x T=>exact⟨x.i,x.k,true,rfl⟩
theorem Mx (h:rz w b f S L) (hS:S≤65536):
  Calls Tryz.prog 43 #[.pointer (some ⟨b,0,none⟩)] w λe w'=>e=.returned (DR L)∧Off [] w w':=by
 obtain⟨W,hW⟩:∃W,w.alloc (.cells #[.int .i64 0,.int .i64 0] 110)=W:=⟨_,rfl⟩
 have hO:Off [] w W:=by rw[←hW];exact(Off.refl _ _).alloc _
 have hB:Row W w.heap.size 2 (λ_=>.int .i64 0):=by
  rw[←hW];exact Row.lit _ _ _ (Nat.le_refl _) lC
 have hk:rz W b f S L:=h.keep λj hj=>by rw[←hW];exact Below.heap_alloc _ _ _ (h.lt j hj)
 have c1:=hk.c1;have HV:=jh (mG hk);have hM:=sU hk.q hS;obtain⟨i0,k0,t0,hm⟩:=Vh L;rw[hm] at hM⊢;have HM:=jh hM;have HO:=jh hO;have HB:=jh hB;have HW:=jh hW;clear hk hO hB hW h hS hM hm;go_in;go_wp2_with fail;rw[HW.out];apply mO HV;rintro e w1 ⟨rfl,rfl⟩;go_wp2_with fail;apply mO HM;rintro e w2 ⟨rfl,o2⟩;have hB2:Row w2 w.heap.size 2 (λ_=>.int .i64 0):=HB.out.of_block (o2.block _ HB.out.lt sj);have b0:=hB2.c 0;have b1:=hB2.c 1;have g0:=hB2.frozen 0;have hB3:=hB2.set 0 (.int .i64 i0);have b2:(w2.setCell ⟨w.heap.size,0,none⟩ (.int .i64 i0)).cell? ⟨w.heap.size,1,none⟩=some (.int .i64 0):=hB3.c 1;have g2:=hB3.frozen 1;have hB4:=hB3.set 1 (.int .i64 k0);have s0:((w2.setCell ⟨w.heap.size,0,none⟩ (.int .i64 i0)).setCell ⟨w.heap.size,1,none⟩ (.int .i64 k0)).cell? ⟨w.heap.size,0,none⟩=some (.int .i64 i0):=hB4.c 0;have s1:((w2.setCell ⟨w.heap.size,0,none⟩ (.int .i64 i0)).setCell ⟨w.heap.size,1,none⟩ (.int .i64 k0)).cell? ⟨w.heap.size,1,none⟩=some (.int .i64 k0):=hB4.c 1;have eG:=jh (HO.out.trans o2 λj hj=>by cases hj);clear hB2 hB3 hB4 o2 HM HO HB HW c1;go_wp2;refine bodyPost_ret (v:=.tuple #[.agg #[.int .i64 i0,.int .i64 k0],.bool t0]) (by simp[results,Tryz.results43,go_sem,s0,s1]) rfl ?_;exact⟨rfl,((eG.out.mono (S':=[w.heap.size]) (λj hj=>by cases hj)).setCell (p:=⟨w.heap.size,0,none⟩) sj _ |>.setCell (p:=⟨w.heap.size,1,none⟩) sj _).mono λj hj=>.inr (by simp at hj;omega)⟩
theorem RO (w:World) (hS:S≤65536):
  Calls Tryz.prog 38 #[.int .i64 (S:Nat)] w λe w'=>∃b f,e=.returned (.tuple #[.pointer (some ⟨b,0,none⟩),.int .i64 0])∧rz w' b f S []∧Bo [] (b::f.bl S) w w':=by
 have HN:=jh (Em (S:=S) w hS);clear hS;go_in;go_wp2_with fail;apply mO HN;rintro e w1 ⟨f,rfl,q,o⟩;have Q:=jh q;have O:=jh o;clear q o HN;go_wp2;go_ret2;have r:=Row.lit (n:=2) (f:=λi=>(#[Value.int .i64 S,.pointer (some ⟨f.h,0,none⟩)]:Array Value).getD i undef) w1 #[.int .i64 S,.pointer (some ⟨f.h,0,none⟩)] 170 (Nat.le_refl _) lC;refine⟨w1.heap.size,f,rfl,⟨r,Q.out.keep λj hj=>Below.heap_alloc _ _ _ (Q.out.lt j hj),λc=>Nat.lt_irrefl _ (Q.out.lt _ c)⟩,⟨O.out.off.alloc _,λj hj=>?_⟩⟩
 rcases List.mem_cons.1 hj with rfl |hj
 ·exact .inr O.out.off.size
 ·exact O.out.fQ j hj
end
section
variable {w w':World} {b:Nat} {f:bY} {S:Nat} {L:List En}
def pQ (w:World) (b:Nat) (f:bY) (S:Nat) (L:List En) (i:Nat) (t:Int) (e:Ending) (w':World):Prop:=
 e=.returned (.int .i64 0)∧∃f' L',rz w' b f' S L'∧(∀e,e∈L'↔e∈L∨e=⟨i,t⟩)∧Bo (b::f.bl S) (b::f'.bl S) w w'∧f'.h=f.h
theorem rz.push {i:Nat} {t:Int} (h:rz w b f S L) (hS:S≤65535) (hi:i<S) (hn:∀e∈L,e.i≠i):
  Calls Tryz.prog 95 #[.pointer (some ⟨f.h,0,none⟩),.int .i64 (i:Nat),.int .i64 t] w (pQ w b f S L i t):=by
 refine(zS h.q hi hn hS).mono ?_;rintro e w' ⟨rfl,f',L',q,m,o⟩;obtain⟨h1,h2⟩:=h.turn q o;exact⟨rfl,f',L',h1,m,h2,o.sh⟩
theorem Mv (h:rz w b f S L) (hS:S≤65535) {i A1 A2 A3:Nat} {t:Int} (hi:i<S) (hn:∀e∈L,e.i≠i)
  (r1:Row w A1 1 (λ_=>.pointer (some ⟨b,0,none⟩))) (r2:Row w A2 1 (λ_=>.int .i64 (i:Nat))) (r3:Row w A3 1 (λ_=>.int .i64 t)) (n1:A1∉b::f.bl S) (n2:A2∉b::f.bl S) (n3:A3∉b::f.bl S):
  Calls Tryz.prog 93 #[.bool false,.pointer (some ⟨A1,0,none⟩),.pointer (some ⟨A2,0,none⟩),.pointer (some ⟨A3,0,none⟩)] w (pQ w b f S L i t):=by
 have c1:=r1.c 0;have c2:=r2.c 0;have c3:=r3.c 0;have c4:=h.c1;have HR:=jh (And.intro r1 (And.intro r2 (And.intro r3 (And.intro n1 (And.intro n2 n3)))));have hd:rz w.drew b f S L:=h.keep λ_ _=>rfl;have HP:=jh (hd.push (t:=t) hS hi hn);have HS:w.drew.cell? ⟨A1,0,none⟩=some (.pointer (some ⟨b,0,none⟩))∧w.drew.cell? ⟨A2,0,none⟩=some (.int .i64 i)∧w.drew.cell? ⟨A3,0,none⟩=some (.int .i64 t)∧w.drew.cell? ⟨b,1,none⟩=some (.pointer (some ⟨f.h,0,none⟩)):=⟨c1,c2,c3,c4⟩;clear h hd hS hi hn c1 c2 c3 c4 r1 r2 r3 n1 n2 n3;go_in;go_wp2;refine aj (λw'=>w'.cell? ⟨A1,0,none⟩=some (.pointer (some ⟨b,0,none⟩))∧w'.cell? ⟨A2,0,none⟩=some (.int .i64 i)∧w'.cell? ⟨A3,0,none⟩=some (.int .i64 t)∧w'.cell? ⟨b,1,none⟩=some (.pointer (some ⟨f.h,0,none⟩))) (by kernel_rfl) ?_;refine tC 0 ?_;refine tC 1 ?_;refine tC 2 ?_;refine tC 3 ?_;refine tC 4 ?_;refine tC 5 ?_
 try simp only[sD]
 refine rC 6 λK hK=>?_;go_simp;apply mO HP;rintro e w3 ⟨rfl,f',L',s3,m3,o3,q3⟩;dsimp only;have hk:∀j<w.heap.size,j∉b::f.bl S→w3.heap[j]?=w.heap[j]?:=λj hj hn=>o3.off.block j hj hn
 have EZ:w3.cell? ⟨A1,0,none⟩=some (.pointer (some ⟨b,0,none⟩))∧w3.cell? ⟨A2,0,none⟩=some (.int .i64 i)∧w3.cell? ⟨A3,0,none⟩=some (.int .i64 t)∧w3.cell? ⟨b,1,none⟩=some (.pointer (some ⟨f.h,0,none⟩)):=
  ⟨(HR.out.1.of_block (hk _ HR.out.1.lt HR.out.2.2.2.1)).c 0,(HR.out.2.1.of_block (hk _ HR.out.2.1.lt HR.out.2.2.2.2.1)).c 0,(HR.out.2.2.1.of_block (hk _ HR.out.2.2.1.lt HR.out.2.2.2.2.2)).c 0,by rw[←q3];exact s3.c1⟩
 have FIN:=jh (show pQ w b f S L i t (.returned (.int .i64 0)) w3 from⟨rfl,f',L',s3,m3,⟨⟨o3.off.os,o3.off.tape,o3.off.output,o3.off.size,o3.off.block⟩,o3.fQ⟩,q3⟩);clear s3 m3 o3 q3 hk HS;refine hK.out _ _ EZ (λHS=>?_);clear hK EZ;refine tC 7 ?_
 try simp only[sD]
 refine dD ⟨rfl,?_⟩;go_wp2;go_ret;exact FIN.out
theorem Mt (h:rz w b f S L) (hS:S≤65535) {i A1 A2 A3:Nat} {t:Int} (hi:i<S) (hn:∀e∈L,e.i≠i)
  (r1:Row w A1 1 (λ_=>.pointer (some ⟨b,0,none⟩))) (r2:Row w A2 1 (λ_=>.int .i64 (i:Nat))) (r3:Row w A3 1 (λ_=>.int .i64 t)) (n1:A1∉b::f.bl S) (n2:A2∉b::f.bl S) (n3:A3∉b::f.bl S):
  Calls Tryz.prog 92 #[.pointer (some ⟨b,0,none⟩),.int .i64 (i:Nat),.func (.func 93) #[] #[.pointer (some ⟨A1,0,none⟩),.pointer (some ⟨A2,0,none⟩),.pointer (some ⟨A3,0,none⟩)]] w (pQ w b f S L i t):=by
 have c0:=h.c0;have c1:=h.c1;have HV:=jh (mG h);have HK:=jh (Me h.q hi hn hS);have HX:=jh (Mv h hS hi hn r1 r2 r3 n1 n2 n3);have d1:decide ((i:Int)<0)=false:=dF om;have d2:decide ((i:Int)≥S)=false:=dF om;have d3:decide ((S:Int)≤i)=false:=dF om;have d4:decide (S≤i)=false:=dF om;clear h hS hi hn r1 r2 r3 n1 n2 n3;go_in;go_wp2_with fail;apply mO HV;rintro e w1 ⟨rfl,rfl⟩;go_wp2_with fail;apply mO HK;rintro e w1 ⟨rfl,rfl⟩;go_wp2_with fail;apply mO HX;rintro e w3 hp;have HP:=jh hp;obtain⟨rfl,_⟩:=hp;go_wp2;go_ret;exact HP.out
theorem RI (h:rz w b f S L) (hS:S≤65535) {i:Nat} {t:Int} (hi:i<S) (hn:∀e∈L,e.i≠i):
  Calls Tryz.prog 49 #[.pointer (some ⟨b,0,none⟩),.int .i64 (i:Nat),.int .i64 t] w (pQ w b f S L i t):=by
 obtain⟨W,hW⟩:∃W,((w.alloc (.cells #[.pointer (some ⟨b,0,none⟩)] 57)).alloc (.cells #[.int .i64 i] 3)).alloc (.cells #[.int .i64 t] 2)=W:=⟨_,rfl⟩
 have hO:Off [] w W:=by rw[←hW];exact(((Off.refl _ _).alloc _).alloc _).alloc _
 have hm:rz W b f S L:=h.keep λj hj=>hO.block j (h.lt j hj) sj;have one:∀(v:Value) (u:World) (T:TypeId),Row (u.alloc (.cells #[v] T)) u.heap.size 1 (λ_=>v):=λv u T=>Row.lit (n:=1) (f:=λ_=>v) u #[v] T (Nat.le_refl _) lC
 have r1:Row W w.heap.size 1 (λ_=>.pointer (some ⟨b,0,none⟩)):=by rw[←hW];exact((one _ _ _).alloc _).alloc _
 have r2:Row W (w.heap.size+1) 1 (λ_=>.int .i64 i):=by
  have:=one (.int .i64 i) (w.alloc (.cells #[.pointer (some ⟨b,0,none⟩)] 57)) 3;rw[World.size_alloc] at this;rw[←hW];exact this.alloc _
 have r3:Row W (w.heap.size+1+1) 1 (λ_=>.int .i64 t):=by
  have:=one (.int .i64 t) ((w.alloc (.cells #[.pointer (some ⟨b,0,none⟩)] 57)).alloc (.cells #[.int .i64 i] 3)) 2;rw[World.size_alloc,World.size_alloc] at this;rw[←hW];exact this
 have far:∀x,w.heap.size≤x→x∉b::f.bl S:=λx hx c=>oC (h.lt x c);have HX:=jh (Mt hm hS hi hn r1 r2 r3 (far _ (Nat.le_refl _)) (far _ om) (far _ om));have HO:=jh hO;have HW:=jh hW;clear h hS hi hn hW hO hm one r1 r2 r3 far;go_in;go_wp2_with fail;rw[HW.out];apply mO HX;rintro e w3 ⟨rfl,f',L',s3,m3,o3,q3⟩;have FIN:=jh (show pQ w b f S L i t (.returned (.int .i64 0)) w3 from⟨rfl,f',L',s3,m3,(Bo.aX HO.out).trans o3,q3⟩);clear s3 m3 o3 q3;go_wp2;go_ret;exact FIN.out
end
structure StS (S:Nat→Prop) (w:World) (S':Nat→Prop) (w':World):Prop where
 os:w'.os=w.os
 tape:w'.tape=w.tape
 output:w'.output=w.output
 size:w.heap.size≤w'.heap.size
 block:∀j<w.heap.size,¬S j→w'.heap[j]?=w.heap[j]?
 sub:∀j,S' j→S j∨w.heap.size≤j∧j<w'.heap.size
variable {F:Fence} {n:Nat} {P:Program}
structure Ik (S C:Nat→Prop) (A B:World):Prop where
 size:A.heap.size≤B.heap.size
 same:∀j,S j∨C j→B.heap[j]?=A.heap[j]?
theorem Ik.trans {S C:Nat→Prop} {A B D:World} (h:Ik S C A B) (k:Ik S C B D):Ik S C A D:=⟨Nat.le_trans h.size k.size,λj hj=>(k.same j hj).trans (h.same j hj)⟩
theorem Ik.putObj {S C:Nat→Prop} {W:World} {l:Nat} (o:Obj) (h1:¬S l) (h2:¬C l):Ik S C W (W.putObj l o):=⟨by simp[World.putObj],λj hj=>World.putObj_heap_other (λe=>by subst e;exact hj.elim h1 h2)⟩
def aej {α:Type} (F:Fence) (n:Nat) (P:Program) (g:Nat) (lb:Array Value) (encs:α→Array Value) (T:(Nat→Prop)→List α→World→Prop) (C:Nat→Prop) (Sx:List α→Prop) (S0:Nat→Prop) (w:World):Prop:=
 ∀(l:Nat) (J:(Nat→Prop)→List α→World→Prop) (Jx:List α→World→Prop) (W:World),Below w.heap.size w W→T S0 [] W→
  (∀S S' pre A B,J S pre A→StS S A S' B→J S' pre B)→
  (∀S pre x W1,J S pre W1→T S (pre++[x]) W1→YieldAt F (n-1) P l (encs x) W1 λe W'=>
   (e=.returned (.bool true)∧J S (pre++[x]) W'∧Ik S C W1 W')∨(e=.returned (.bool false)∧Jx (pre++[x]) W'))→
  J S0 [] W→
  CallsIn F n P g (#[.func (.yield l) #[] #[]]++lb) W λe W'=>(∃v,e=.returned v)∧((∃xs S,Sx xs∧T S xs W'∧J S xs W')∨(∃pre,Jx pre W'))
theorem Yw {α:Type} {g:Operand} {ps:Array Tmp} {assign body:Code} {Q:Exit→Act→World→Prop} {a:Act} {w:World}
  (hro:F.round=none) (h1:1≤n) {gf:Nat} {lb:Array Value} (hg:a.eval g=.func (.func gf) #[] lb) (hFg:F.fn gf) (eg:∀args w,(callFunc gf args).run P w=.ok (.enter gf args) w)
  {encs:α→Array Value} {T:(Nat→Prop)→List α→World→Prop} {C:Nat→Prop} {Sx:List α→Prop} {S0:Nat→Prop} (hseq:aej F (n-1) P gf lb encs T C Sx S0 w)
  (hT:∀S xs A B,Ik S C A B→T S xs A→T S xs B) (hT0:T S0 [] w) (hS0:∀j,S0 j→j<w.heap.size) (hC:∀j,C j→j<w.heap.size) (hps:∀x,(encs x).size=ps.size)
  (I:(Nat→Prop)→List α→World→Prop) (Ix:Code→List α→World→Prop) (hI:∀S,OwnFrom w.heap.size (I S)) (hIx:∀c,OwnFrom w.heap.size (Ix c)) (hIs:∀S S' pre A B,I S pre A→StS S A S' B→I S' pre B) (h0:I S0 [] w) (Ax:List α→α→Act→Prop)
  (hassign:∀(l:Nat) (S:Nat→Prop) (pre:List α) (x:α) (W:World) (K:Act→World→Prop),I S pre W→T S (pre++[x]) W→(∀a',Ax pre x a'→K a' W)→
   assign.wpIn (F.inRound l) (n-1-1) P (Exit.then K (λ_ _ _=>False)) { tmps:=(ps.zip (encs x)).foldl (λt (p,v)=>t.setIfInBounds p v) a.tmps,defers:=[] } W)
  (hbody:∀(l:Nat) (S:Nat→Prop) (pre:List α) (x:α) (a':Act) (W:World),w.heap.size≤l→(∃r,W.heap[l]?=some (.loop r))→¬S l→I S pre W→Ax pre x a'→T S (pre++[x]) W→body.wpIn (F.inRound l) (n-1-1) P (ownPostG w.heap.size (Ik S C) (I S) Ix (pre++[x]) W) a' W)
  (hdone:∀(D:Nat) (S:Nat→Prop) (xs:List α) (W:World),w.heap.size≤D→Sx xs→T S xs W→I S xs W→W.heap[D]?=some (.deferred (some []))→Q .normal { a with defers:={ target:=.collected D,args:=#[] }::a.defers } W)
  (hstop:∀(D:Nat) (c:Code) (pre:List α) (W:World),w.heap.size≤D→Ix c pre W→W.heap[D]?=some (.deferred (some []))→c.wpIn F n P Q { a with defers:={ target:=.collected D,args:=#[] }::a.defers } W):
  (Code.rangeFunc g ps assign body).wpIn F n P Q a w:=by
 refine wpIn_rangeFunc ?_;intro fn hfn;rw[hro];obtain⟨rec,hrec⟩:∃rec:LoopState→Option Code→Loop,rec=λst pe=>{ state:=st,pending:=pe,fn,tmps:=a.tmps,params:=ps,assign,body,defers:=w.heap.size }:=⟨_,rfl⟩;obtain⟨W1,hW1⟩:=nE ((w.alloc (.deferred (some []))).alloc (.loop (rec .ready none)))
 have hL1:W1.heap[w.heap.size+1]?=some (.loop (rec .ready none)):=by
  rw[←hW1];have:=World.alloc_heap_new (w.alloc (.deferred (some []))) (.loop (rec .ready none));rwa [World.size_alloc] at this
 have hK1:W1.heap[w.heap.size]?=some (.deferred (some [])):=by
  rw[←hW1];exact(Below.heap_alloc _ _ _ sj).trans (World.alloc_heap_new w _)
 have hI1:I S0 [] W1:=by rw[←hW1];exact(hI S0).alloc _ ((hI S0).alloc _ h0)
 have hb1:Below w.heap.size w W1:=by
  rw[←hW1];exact((Below.refl _ w).alloc (Nat.le_refl _) _).alloc sj _
 have hT1:T S0 [] W1:=hT _ _ _ _ ⟨hb1.size,λj hj=>hb1.block j (hj.elim (hS0 j) (hC j))⟩ hT0
 have hsz:w.heap.size+2=W1.heap.size:=by rw[←hW1];simp
 refine⟨w.heap.size+1,[{ target:=.collected w.heap.size,args:=#[] }],W1,{ target:=.fn (.func gf) lb,args:=#[.func (.yield (w.heap.size+1)) #[] #[]] },W1,gf,
  #[.func (.yield (w.heap.size+1)) #[] #[]]++lb,W1,?_,?_,?_,?_,λ_=>h1,?_⟩
 ·rw[←hW1,hrec];exact run_enterLoop_outer _ _ _ _ _
 ·simp only[resolve,hg];simp[go_sem]
 ·intro f' hf';simp[Target.leads] at hf';subst hf';exact hFg
 ·simp[invoke,go_sem,eg]
 ·refine(hseq (w.heap.size+1)
   (λS pre W=>I S pre W∧W.heap[w.heap.size+1]?=some (.loop (rec .ready none))∧W.heap[w.heap.size]?=some (.deferred (some []))∧¬S (w.heap.size+1)∧¬S w.heap.size)
   (λpre W=>∃c,Ix c pre W∧W.heap[w.heap.size+1]?=some (.loop (rec .done (some c)))∧W.heap[w.heap.size]?=some (.deferred (some [])))
   W1 hb1 hT1
   (λS S' pre A B hs st=>by
    obtain⟨h1,h2,h3,h4,h5⟩:=hs;have l1:=(Array.getElem?_eq_some_iff.1 h2).1;have l2:=(Array.getElem?_eq_some_iff.1 h3).1
    exact⟨hIs _ _ _ _ _ h1 st,(st.block _ l1 h4).trans h2,(st.block _ l2 h5).trans h3,λc=>(st.sub _ c).elim h4 λe=>om,λc=>(st.sub _ c).elim h5 λe=>om⟩)
   ?_ ⟨hI1,hL1,hK1,λc=>oC (hS0 _ c),λc=>oC (hS0 _ c)⟩).mono ?_
  ·--one round
   rintro S pre x W0 ⟨hi0,hl0,hk0,hsl,hsk⟩ hR;have hcl:¬C (w.heap.size+1):=λc=>oC (hC _ c);have hy:=run_yield (P:=P) (args:=encs x) hl0 (by rw[hrec];exact hps x);rw[hrec] at hy;refine⟨fn,_,assign,body,hy,roundIn_of_wpIn hfn (hassign _ S pre x W0 _ hi0 hR ?_)⟩;clear hy;intro a' hax;obtain⟨W,hWe⟩:=nG W0;subst hWe;have hi:=hi0;have hl:=hl0;have hk:=hk0;have hlt:w.heap.size+1<W.heap.size:=(Array.getElem?_eq_some_iff.1 hl).1;refine⟨_,run_beginRound hl (by rw[hrec]),?_⟩;obtain⟨busy,Et⟩:∃busy:Loop,busy={ rec .ready none with state:=.busy }:=⟨_,rfl⟩;rw[←Et];have hl2:(W.putObj (w.heap.size+1) (.loop busy)).heap[w.heap.size+1]?=some (.loop busy):=World.putObj_heap_same hlt;have hk2:(W.putObj (w.heap.size+1) (.loop busy)).heap[w.heap.size]?=some (.deferred (some [])):=(World.putObj_heap_other om).trans hk;have hw2:Ik S C W (W.putObj (w.heap.size+1) (.loop busy)):=Ik.putObj _ hsl hcl;refine wpIn_mono (hbody _ S pre x a' _ om ⟨_,hl2⟩ hsl ((hI S).putObj _ hi om hl rfl) hax (hT _ _ _ _ hw2 hR)) ?_
   have fin:∀(jump:Option Code) (W3:World),KeepsFrom w.heap.size (W.putObj (w.heap.size+1) (.loop busy)) W3→
     ∃W4,W4=W3.putObj (w.heap.size+1) (.loop (rec (if jump.isNone then .ready else .done) jump))∧
     (Instr.endRound (w.heap.size+1) jump).run P W3=.ok (.bool jump.isNone) W4∧
     W3.heap[w.heap.size+1]?=some (.loop busy)∧
     W4.heap[w.heap.size+1]?=some (.loop (rec (if jump.isNone then .ready else .done) jump))∧
     W4.heap[w.heap.size]?=some (.deferred (some [])):=λjump W3 hk3=>by
    have hl3:=hk3.same _ _ om hl2 rfl;have he:=run_endRound (P:=P) jump hl3;rw[Et,hrec] at he;refine⟨_,rfl,by rw[hrec];exact he,hl3,World.putObj_heap_same (Array.getElem?_eq_some_iff.1 hl3).1,(World.putObj_heap_other om).trans (hk3.same _ _ (Nat.le_refl _) hk2 rfl)⟩
   have left:∀(c:Code) (W3:World),KeepsFrom w.heap.size (W.putObj (w.heap.size+1) (.loop busy)) W3→Ix c (pre++[x]) W3→∃v W4,(Instr.endRound (w.heap.size+1) (some c)).run P W3=.ok v W4∧
     ((Ending.returned v=.returned (.bool true)∧(I S (pre++[x]) W4∧W4.heap[w.heap.size+1]?=some (.loop (rec .ready none))∧W4.heap[w.heap.size]?=some (.deferred (some []))∧¬S (w.heap.size+1)∧¬S w.heap.size)∧Ik S C W W4)∨
     (Ending.returned v=.returned (.bool false)∧∃c,Ix c (pre++[x]) W4∧W4.heap[w.heap.size+1]?=some (.loop (rec .done (some c)))∧W4.heap[w.heap.size]?=some (.deferred (some [])))):=λc W3 hk3 hi3=>by
    obtain⟨W4,e4,hr,hl3,hl4,hk4⟩:=fin (some c) W3 hk3;refine⟨_,W4,hr,.inr ⟨rfl,c,?_,hl4,hk4⟩⟩;rw[e4];exact(hIx _).putObj _ hi3 om hl3 rfl
   rintro e a3 W3 hp
   cases e with
   |normal=>
    obtain⟨hk3,hkp3,hi3⟩:=hp;obtain⟨W4,e4,hr,hl3,hl4,hk4⟩:=fin none W3 hk3;refine⟨_,W4,hr,.inl ⟨rfl,⟨?_,hl4,hk4,hsl,hsk⟩,?_⟩⟩
    ·rw[e4];exact(hI S).putObj _ hi3 om hl3 rfl
    ·rw[e4];exact(hw2.trans hkp3).trans (Ik.putObj _ hsl hcl)
   |ret=>exact left .ret W3 hp.1 hp.2
   |exit id=>exact left (.exit id) W3 hp.1 hp.2
   |goto t=>exact left (.goto t) W3 hp.1 hp.2
   |panic ch=>exact hp.elim
   |outgrown=>exact hp.elim
  ·--behind the iterator
   rintro e W2 ⟨⟨v,rfl⟩,(⟨xs,S,hS,ht,hi,hl,hk,hsl,hsk⟩ |⟨pre,c,hi,hl,hk⟩)⟩
   ·exact⟨none,_,by have:=run_endLoop (P:=P) hl (by rw[hrec];simp);rw[hrec] at this;exact this,hdone _ S xs _ (Nat.le_refl _) hS (hT _ _ _ _ (Ik.putObj _ hsl (λc=>oC (hC _ c))) ht) ((hI S).putObj _ hi om hl rfl) ((World.putObj_heap_other om).trans hk)⟩
   ·exact⟨some c,_,by have:=run_endLoop (P:=P) hl (by rw[hrec];simp);rw[hrec] at this;exact this,hstop _ c pre _ (Nat.le_refl _) ((hIx c).putObj _ hi om hl rfl) ((World.putObj_heap_other om).trans hk)⟩
def q9 (E:List Ed) (i j:Nat):Prop:=(aR E i).w<(aR E j).w∨((aR E i).w=(aR E j).w∧i<j)
instance (E:List Ed) (i j:Nat):Decidable (q9 E i j):=by unfold q9;infer_instance
theorem uz {E:List Ed} {i j:Nat} (h:q9 E i j) (h':q9 E j i):False:=by unfold q9 at*;omega
theorem Lx {E:List Ed} {i j k:Nat} (h:q9 E i j) (h':q9 E j k):q9 E i k:=by unfold q9 at*;omega
theorem uy {E:List Ed} {i j:Nat} (h:i≠j):q9 E i j∨q9 E j i:=by unfold q9;omega
structure bO (E:List Ed) (o:List Nat):Prop where
 perm:o.Perm (List.range E.length)
 sorted:o.Pairwise (q9 E)
theorem bO.len {E:List Ed} {o:List Nat} (h:bO E o):o.length=E.length:=by rw[h.perm.length_eq,List.length_range]
theorem bO.mem {E:List Ed} {o:List Nat} (h:bO E o) {i:Nat}:i∈o↔i<E.length:=by rw[h.perm.mem_iff,List.mem_range]
def SA (E:List Ed) (i j:Nat):Int:=if dz (aR E i).w (aR E j).w=0 then dz (i:Int) (j:Int) else dz (aR E i).w (aR E j).w
theorem Af {x y:Int}:dz x y=0↔x=y:=by
 unfold dz
 split
 ·omega
 ·split<;>omega
theorem EK {x y:Int}:dz x y<0↔x<y:=by
 unfold dz
 split
 ·omega
 ·split<;>omega
theorem aag (E:List Ed) (i j:Nat):SA E i j<0↔q9 E i j:=by
 unfold SA q9
 split
 ·rename_i h;rw[EK];have:=Af.1 h;omega
 ·rename_i h;rw[EK];have:(aR E i).w≠(aR E j).w:=λe=>h (Af.2 e);omega
theorem Ae {E:List Ed} {o o':List Nat} (h:∀i∈o,i∈o') {a b:Nat} (hc:Cn (o.map (gJ E)) a b):Cn (o'.map (gJ E)) a b:=
 hc.mono λp hp=>by
  obtain⟨i,hi,rfl⟩:=List.mem_map.1 hp;exact List.mem_map_of_mem (h i hi)
theorem QV {E:List Ed} {o o':List Nat} (h:∀i,i∈o↔i∈o'):bR E o=bR E o':=
 zO λ_ _=>⟨Ae λi hi=>(h i).1 hi,Ae λi hi=>(h i).2 hi⟩
def rk (n:Nat) (E:List Ed) (o:List Nat):Nat:=n-iV n (bR E o)
theorem jB (w:World) (z c:Array Value) (t:TypeId):(w.alloc (.cells z t)).setRow w.heap.size c=w.alloc (.cells c t):=by
 unfold World.setRow World.alloc
 congr 1
 apply Array.ext
 ·simp
 ·intro k h1 h2;rw[Array.getElem_modify]
  by_cases e:w.heap.size=k
  ·subst e;simp
  ·rw[if_neg e];simp only[Array.size_modify,Array.size_push] at h1;rw[Array.getElem_push_lt om,Array.getElem_push_lt om]
def fO (n:Nat) (f:Nat→Value):Array Value:=((List.range n).map f).toArray
theorem dK (n:Nat) (f:Nat→Value):(fO n f).size=n:=by simp[fO]
theorem rH {n:Nat} {f:Nat→Value} (h:∀i<n,(f i).oneCell'=true):(fO n f).all (·.oneCell')=true:=by
 rw[Array.all_eq_true_iff_forall_mem];intro v hv;unfold fO at hv;simp only[List.mem_toArray,List.mem_map,List.mem_range] at hv;obtain⟨i,hi,rfl⟩:=hv;exact h i hi
section
variable {P:Program} {w:World} {g n:Nat} {f:Nat→Value}
theorem Dq (h:Row w g n f) (ty:TypeId) (d:TypeDesc) (hu:P.underlying ty=some d) (hd:(match d with |.struct _ |.array _ _=>true |_=>false)=true) (hi:(P.info? ty).map (·.size)=some n):
  (loadVar ty ⟨g,0,none⟩).run P w=.ok (.agg (fO n f)) w:=by
 have hl:(loadCells ⟨g,0,none⟩ n).run P w=.ok (fO n f) w:=by
  have:=run_loadCells (P:=P) w ⟨g,0,none⟩ n f (λj hj=>by rw[kV,Nat.zero_add];exact h.cell hj);exact this
 cases hq:P.info? ty with
 |none=>simp[hq] at hi
 |some i=>
  have hs:i.size=n:=by simpa [hq] using hi
  have hagg:(isAgg ty).run P w=.ok true w:=by
   unfold isAgg;rw[Sem.run_bind,run_underlying hu w]
   cases d<;>simp_all
  simp[loadVar,Sem.run_bind,hagg,sizeOf,typeInfo,hq,hs,hl]
theorem gV {ops:Array Oper} {rest:List Oper} {o:Oper} {a:Act} {Q:Exit→Act→World→Prop} (h:Row w g n f) (hgd:o.guard=none) (ty:TypeId) (x:Operand) (ho:o.op=.load ty x)
  (hx:a.eval x=.pointer (some ⟨g,0,none⟩)) (d:TypeDesc) (hu:P.underlying ty=some d) (hd:(match d with |.struct _ |.array _ _=>true |_=>false)=true) (hi:(P.info? ty).map (·.size)=some n)
  (hK:wpList P ops Q rest (a.put o.dst (.agg (fO n f))) w):wpList P ops Q (o::rest) a w:=
 wpList_plain hgd λK hk=>by
  unfold Oper.wp execOp;simp only[ho,hx,Instr.loadAt,Instr.sureAddr,Sem.run_bind,Sem.run_pure,Result.andThen_ok,Dq h ty d hu hd hi];exact hk _ _ hK
end
def aa4 (n:Int) (E:List Ed) (w:World) (e:Ending) (w':World):Prop:=
 Below w.heap.size w w'∧((j5 n E≠0∧e=.returned (.tuple #[.slice none 0 0,.int .i64 (j5 n E)]))∨
  (j5 n E=0∧∃o v,bO E o∧e=.returned (.tuple #[v,.int .i64 0])∧iG w.heap.size v (aH E o) w'))
end Go.Proofs.YtpaeogglppampaaGreatDoor
