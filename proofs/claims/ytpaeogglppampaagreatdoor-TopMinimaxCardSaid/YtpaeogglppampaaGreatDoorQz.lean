/- Lemmas of the proof. Conditions: as each one states. -/
import Derived.Test.YtpaeogglppampaaGreatDoorQy
import Derived.Deep.RegionWith
set_option maxRecDepth 100000
set_option maxHeartbeats 16000000
namespace Go.Proofs.YtpaeogglppampaaGreatDoor
open Go.RowKit
section
open Go.Shelf
theorem Yg (b B:Nat) (p:List Int) (v k:Int) (w:World) (h:TabAt w B b p) (hBw:B≤w.heap.size) (hT:qw w):
  Calls Tryz.prog 148 #[.pointer (some ⟨b,0,none⟩),.int .i64 v,.int .i64 k] w λe w'=>e=.returned (.tuple #[.int .i64 (Ci p v k),.bool (Av p v k)])∧Below w.heap.size w w':=by
 cases hv:vK p v with
 |false=>
  have e1:Av p v k=false:=by simp[Av,hv]
  have e2:Ci p v k=0:=by simp[Ci,e1]
  rw[e1,e2];exact Yh b B p v k w h hBw hv
 |true=>
  obtain⟨u,rfl,hu⟩:=fJ.1 hv
  by_cases hk:k<0
  ·have e1:Av p u k=false:=by simp[Av];omega
   have e2:Ci p u k=0:=by simp[Ci,e1]
   rw[e1,e2];exact Yi b B p u k w h hBw hv hk
  ·by_cases hf:(dp p u:Int)<k
   ·have e1:Av p u k=false:=by simp[Av];omega
    have e2:Ci p u k=0:=by simp[Ci,e1]
    rw[e1,e2];exact Yj b B p u k w h hBw hu om hf
   ·obtain⟨j,rfl⟩:=Int.eq_ofNat_of_zero_le (show 0≤k by omega)
    have e1:Av p u j=true:=by simp[Av,hv];omega
    have e2:Ci p u j=oi (aL p j u):=by simp[Ci,e1]
    rw[e1,e2];exact abU b B p u j w h hBw hT hu om
end
section
open Go.Shelf
def NN (p:List Int) (a b:Int):Bool:=vK p a&&vK p b&&(com p a.toNat b.toNat).isSome
def TW (p:List Int) (a b:Int):Int:=if NN p a b then oi (com p a.toNat b.toNat) else 0
theorem IK {b B:Nat} {p:List Int} {v k:Int} {w:World} {x:Int} {y:Bool} (hx:Ci p v k=x) (hy:Av p v k=y) (h:TabAt w B b p) (hBw:B≤w.heap.size) (hT:qw w):
  Calls Tryz.prog 148 #[.pointer (some ⟨b,0,none⟩),.int .i64 v,.int .i64 k] w λe w'=>e=.returned (.tuple #[.int .i64 x,.bool y])∧Below w.heap.size w w':=by
 subst hx;subst hy;exact Yg b B p v k w h hBw hT
theorem um {a b:Int} {c d:Bool} (h:a=b) (h':c=d):Ending.returned (.tuple #[.int .i64 a,.bool c])=.returned (.tuple #[.int .i64 b,.bool d]):=by rw[h,h']
theorem Sj {p:List Int} {x y:Nat} (hx:vK p x=true) (hy:vK p y=true):TW p x y=(match com p x y with |some c=>(c:Int) |none=>0)∧NN p x y=(com p x y).isSome:=by
 have e:NN p x y=(com p x y).isSome:=by simp only[NN,hx,hy,Bool.true_and,Int.toNat_natCast]
 refine⟨?_,e⟩;rw[TW,e,Int.toNat_natCast,Int.toNat_natCast]
 cases com p x y<;>rfl
theorem qw.lt {w:World} (hT:qw w):1<w.heap.size:=by
 have:=hT 0 (by decide);obtain⟨o,ho,_⟩:=cells_of_cell this;exact(Array.getElem?_eq_some_iff.1 ho).1
theorem MO (b B:Nat) (p:List Int) (x y x0 y0:Nat) (w:World) (h:TabAt w B b p) (hBw:B≤w.heap.size) (hT:qw w) (L:Level p x y x0 y0) (hle:dp p x≤dp p y):
  Calls Tryz.prog 112 #[.pointer (some ⟨b,0,none⟩),.int .i64 x,.int .i64 y] w λe w'=>e=.returned (.tuple #[.int .i64 (TW p x y),.bool (NN p x y)])∧Below w.heap.size w w':=by
 have hs:=h.small;have fU:=h.tree;have hxl:=L.ha;have hyl:=L.hb;obtain⟨ahF,ahD,_⟩:=L.facts fU;have hx:vK p x=true:=fJ.2 ⟨x,rfl,hxl⟩;have hy:vK p y=true:=fJ.2 ⟨y,rfl,hyl⟩;obtain⟨db,hdb,c1,c2⟩:=h.dep;have c3:=c2 x hxl;have c4:=c2 y hyl;clear c2;obtain⟨jb,hj⟩:=h.jmp;have hd1:(0:Int)≤(x:Int)∧(x:Int)<p.length:=om;have hd2:(0:Int)≤(y:Int)∧(y:Int)<p.length:=om;have hb1:=mJ fU hxl;have hb2:=mJ fU hyl
 have q1:Av p x (0)=true:=by simp[Av,hx]
 have q2:Ci p x (0)=x0:=by
  have:=L.ea;rw[Nat.min_eq_left hle] at this;simp only[Ci,q1,if_true];rw[show(0:Int).toNat=dp p x-dp p x from om,Int.toNat_natCast,this];rfl
 have q3:Av p y (((dp p y:Int)-dp p x))=true:=by simp[Av,hy];omega
 have q4:Ci p y (((dp p y:Int)-dp p x))=y0:=by
  have:=L.eb;rw[Nat.min_eq_left hle] at this;simp only[Ci,q3,if_true];rw[show(((dp p y:Int)-dp p x):Int).toNat=dp p y-dp p x from om,Int.toNat_natCast,this];rfl
 have H:=jh hx;have H2:=jh hy;have Q1:=jh q1;have Q2:=jh q2;have Q3:=jh q3;have Q4:=jh q4;have NU:=jh (Sj hx hy);clear q1 q2 q3 q4 hx hy;go_in;go_wp2_with fail;refine(iq H.out h).mono ?_;rintro e w' ⟨rfl,rfl⟩;go_wp2_with fail;refine(iq H2.out h).mono ?_;rintro e w' ⟨rfl,rfl⟩;go_wp2
 go_quiet (fail)
 go_wp2_with fail;refine(IK Q2.out Q1.out (h.drewN _) hBw hT).mono ?_;rintro e w1 ⟨rfl,hb1'⟩;have sV:Below w.heap.size w w1:=(below_drewN (Below.refl _ _) nq).trans hb1';clear hb1' c1 c3 c4;have ht1:=h.below (sV.mono hBw);obtain⟨db1,_,c1,c2⟩:=ht1.dep;have c4:=c2 y hyl;clear c2;have hT1:qw w1:=hT.below sV (qw.lt hT);have hsz1:=sV.size;go_wp2_with fail;refine(IK Q4.out Q3.out ht1 om hT1).mono ?_;rintro e w2 ⟨rfl,hb2'⟩;have Eu:Below w.heap.size w w2:=sV.trans (hb2'.mono hsz1);clear hb2' c1 c4
 by_cases hxy:x0=y0
 ·subst hxy;go_wp2;go_ret2;have e1:=EJ fU L;have e2:=NU.out;rw[e1] at e2;exact⟨um e2.1.symm e2.2.symm,Eu⟩
 ·have hxy':((x0:Int)==(y0:Int))=false:=by simp;omega
  have HS:=jh (qc.start fU hs L hxy);clear hxy;go_wp2
  go_loopw [1,2,9] (λa b j wr=>∃(m i x' y':Nat) (jj:Int),a=.int .i64 x'∧b=.int .i64 y'∧j=.int .i64 jj∧jj+1=i∧i≤13∧qc p x0 y0 m i x' y'∧Below w.heap.size w wr) (λ_ _ j _=>(intOf j+1).toNat)
  case atStart=>exact⟨0,13,x0,y0,12,rfl,rfl,rfl,om,om,HS.out,Eu⟩
  case round=>
   obtain⟨m,i,x',y',jj,rfl,rfl,rfl,hjj,ah2,S,hbr⟩:=hrel;have⟨Q8,Y6⟩:=S.lt fU L;have ahG:(0:Int)≤x'∧(x':Int)<p.length:=om;have ahE:(0:Int)≤y'∧(y':Int)<p.length:=om
   cases i with
   |zero=>
    obtain rfl:jj=-1:=om
    have c5:wr.cell? ⟨b,2,none⟩=some (.slice (some ⟨jb 0,0,none⟩) p.length p.length):=by rw[hbr.cell (Nat.lt_of_lt_of_le h.lt hBw)];exact(hj 0 om).2.1
    have c6:wr.cell? ⟨jb 0,x',none⟩=some (.int .i64 (oi (pa p x'))):=by rw[hbr.cell (Nat.lt_of_lt_of_le (hj 0 om).1 hBw)];exact(hj 0 om).2.2 x' Q8
    have hcom:=S.done fU L
    cases hp:pa p x' with
    |none=>
     rw[hp] at c6 hcom;replace c6:wr.cell? ⟨jb 0,x',none⟩=some (.int .i64 (-1)):=c6;have HC:=jh hcom;clear hcom hp hjj;go_wp2;go_ret2;have e2:=NU.out;rw[HC.out] at e2;exact⟨um e2.1.symm e2.2.symm,hbr⟩
    |some c=>
     rw[hp] at c6 hcom;replace c6:wr.cell? ⟨jb 0,x',none⟩=some (.int .i64 c):=c6;have HC:=jh hcom;clear hcom hp hjj;go_wp2;go_ret2;have e2:=NU.out;rw[HC.out] at e2;exact⟨um e2.1.symm e2.2.symm,hbr⟩
   |succ i'=>
    obtain rfl:jj=(i':Int):=om
    have c5:wr.cell? ⟨b,2+i',none⟩=some (.slice (some ⟨jb i',0,none⟩) p.length p.length):=by rw[hbr.cell (Nat.lt_of_lt_of_le h.lt hBw)];exact(hj i' om).2.1
    have c6:wr.cell? ⟨jb i',x',none⟩=some (.int .i64 (oi (aL p (2 ^ i') x'))):=by rw[hbr.cell (Nat.lt_of_lt_of_le (hj i' om).1 hBw)];exact(hj i' om).2.2 x' Q8
    have c7:wr.cell? ⟨jb i',y',none⟩=some (.int .i64 (oi (aL p (2 ^ i') y'))):=by rw[hbr.cell (Nat.lt_of_lt_of_le (hj i' om).1 hBw)];exact(hj i' om).2.2 y' Y6
    have ah3:(0:Int)≤i'∧(i':Int)<13:=om;clear hjj
    by_cases hne:oi (aL p (2 ^ i') x')=oi (aL p (2 ^ i') y')
    ·have HS2:=jh (S.same hne);rw[←hne] at c7;clear hne S;generalize oi (aL p (2 ^ i') x')=z at c6 c7;have hz:(z !=z)=false:=sj;go_wp2
     go_quiet (fail)
     go_wp2;go_roundw
     case rel=>exact⟨m,i',x',y',_,rfl,rfl,rfl,om,om,HS2.out,below_drewN hbr _⟩
     case measure=>simp[intOf]
    ·obtain⟨x2,y2,e1,e2,S2⟩:=S.go fU L hne;rw[e1,e2] at hne;rw[e1] at c6;rw[e2] at c7
     have hz:((x2:Int) !=(y2:Int))=true:=by simpa using hne
     have HS2:=jh S2;clear hne S S2 e1 e2;go_wp2
     go_quiet (fail)
     go_wp2;go_roundw
     case rel=>exact⟨m+2 ^ i',i',x2,y2,_,rfl,rfl,rfl,om,om,HS2.out,below_drewN hbr _⟩
     case measure=>simp[intOf]
theorem MQ (b B:Nat) (p:List Int) (x y x0 y0:Nat) (w:World) (h:TabAt w B b p) (hBw:B≤w.heap.size) (hT:qw w) (L:Level p x y x0 y0) (hle:dp p y<dp p x):
  Calls Tryz.prog 112 #[.pointer (some ⟨b,0,none⟩),.int .i64 x,.int .i64 y] w λe w'=>e=.returned (.tuple #[.int .i64 (TW p x y),.bool (NN p x y)])∧Below w.heap.size w w':=by
 have hs:=h.small;have fU:=h.tree;have hxl:=L.ha;have hyl:=L.hb;obtain⟨ahF,ahD,_⟩:=L.facts fU;have hx:vK p x=true:=fJ.2 ⟨x,rfl,hxl⟩;have hy:vK p y=true:=fJ.2 ⟨y,rfl,hyl⟩;obtain⟨db,hdb,c1,c2⟩:=h.dep;have c3:=c2 x hxl;have c4:=c2 y hyl;clear c2;obtain⟨jb,hj⟩:=h.jmp;have hd1:(0:Int)≤(x:Int)∧(x:Int)<p.length:=om;have hd2:(0:Int)≤(y:Int)∧(y:Int)<p.length:=om;have hb1:=mJ fU hxl;have hb2:=mJ fU hyl
 have q1:Av p x (((dp p x:Int)-dp p y))=true:=by simp[Av,hx];omega
 have q2:Ci p x (((dp p x:Int)-dp p y))=x0:=by
  have:=L.ea;rw[Nat.min_eq_right (Nat.le_of_lt hle)] at this;simp only[Ci,q1,if_true];rw[show(((dp p x:Int)-dp p y):Int).toNat=dp p x-dp p y from om,Int.toNat_natCast,this];rfl
 have q3:Av p y (0)=true:=by simp[Av,hy]
 have q4:Ci p y (0)=y0:=by
  have:=L.eb;rw[Nat.min_eq_right (Nat.le_of_lt hle)] at this;simp only[Ci,q3,if_true];rw[show(0:Int).toNat=dp p y-dp p y from om,Int.toNat_natCast,this];rfl
 have H:=jh hx;have H2:=jh hy;have Q1:=jh q1;have Q2:=jh q2;have Q3:=jh q3;have Q4:=jh q4;have NU:=jh (Sj hx hy);clear q1 q2 q3 q4 hx hy;go_in;go_wp2_with fail;refine(iq H.out h).mono ?_;rintro e w' ⟨rfl,rfl⟩;go_wp2_with fail;refine(iq H2.out h).mono ?_;rintro e w' ⟨rfl,rfl⟩;go_wp2
 go_quiet (fail)
 go_wp2_with fail;refine(IK Q2.out Q1.out (h.drewN _) hBw hT).mono ?_;rintro e w1 ⟨rfl,hb1'⟩;have sV:Below w.heap.size w w1:=(below_drewN (Below.refl _ _) nq).trans hb1';clear hb1' c1 c3 c4;have ht1:=h.below (sV.mono hBw);obtain⟨db1,_,c1,c2⟩:=ht1.dep;have c4:=c2 y hyl;clear c2;have hT1:qw w1:=hT.below sV (qw.lt hT);have hsz1:=sV.size;go_wp2_with fail;refine(IK Q4.out Q3.out ht1 om hT1).mono ?_;rintro e w2 ⟨rfl,hb2'⟩;have Eu:Below w.heap.size w w2:=sV.trans (hb2'.mono hsz1);clear hb2' c1 c4
 by_cases hxy:x0=y0
 ·subst hxy;go_wp2;go_ret2;have e1:=EJ fU L;have e2:=NU.out;rw[e1] at e2;exact⟨um e2.1.symm e2.2.symm,Eu⟩
 ·have hxy':((x0:Int)==(y0:Int))=false:=by simp;omega
  have HS:=jh (qc.start fU hs L hxy);clear hxy;go_wp2
  go_loopw [1,2,9] (λa b j wr=>∃(m i x' y':Nat) (jj:Int),a=.int .i64 x'∧b=.int .i64 y'∧j=.int .i64 jj∧jj+1=i∧i≤13∧qc p x0 y0 m i x' y'∧Below w.heap.size w wr) (λ_ _ j _=>(intOf j+1).toNat)
  case atStart=>exact⟨0,13,x0,y0,12,rfl,rfl,rfl,om,om,HS.out,Eu⟩
  case round=>
   obtain⟨m,i,x',y',jj,rfl,rfl,rfl,hjj,ah2,S,hbr⟩:=hrel;have⟨Q8,Y6⟩:=S.lt fU L;have ahG:(0:Int)≤x'∧(x':Int)<p.length:=om;have ahE:(0:Int)≤y'∧(y':Int)<p.length:=om
   cases i with
   |zero=>
    obtain rfl:jj=-1:=om
    have c5:wr.cell? ⟨b,2,none⟩=some (.slice (some ⟨jb 0,0,none⟩) p.length p.length):=by rw[hbr.cell (Nat.lt_of_lt_of_le h.lt hBw)];exact(hj 0 om).2.1
    have c6:wr.cell? ⟨jb 0,x',none⟩=some (.int .i64 (oi (pa p x'))):=by rw[hbr.cell (Nat.lt_of_lt_of_le (hj 0 om).1 hBw)];exact(hj 0 om).2.2 x' Q8
    have hcom:=S.done fU L
    cases hp:pa p x' with
    |none=>
     rw[hp] at c6 hcom;replace c6:wr.cell? ⟨jb 0,x',none⟩=some (.int .i64 (-1)):=c6;have HC:=jh hcom;clear hcom hp hjj;go_wp2;go_ret2;have e2:=NU.out;rw[HC.out] at e2;exact⟨um e2.1.symm e2.2.symm,hbr⟩
    |some c=>
     rw[hp] at c6 hcom;replace c6:wr.cell? ⟨jb 0,x',none⟩=some (.int .i64 c):=c6;have HC:=jh hcom;clear hcom hp hjj;go_wp2;go_ret2;have e2:=NU.out;rw[HC.out] at e2;exact⟨um e2.1.symm e2.2.symm,hbr⟩
   |succ i'=>
    obtain rfl:jj=(i':Int):=om
    have c5:wr.cell? ⟨b,2+i',none⟩=some (.slice (some ⟨jb i',0,none⟩) p.length p.length):=by rw[hbr.cell (Nat.lt_of_lt_of_le h.lt hBw)];exact(hj i' om).2.1
    have c6:wr.cell? ⟨jb i',x',none⟩=some (.int .i64 (oi (aL p (2 ^ i') x'))):=by rw[hbr.cell (Nat.lt_of_lt_of_le (hj i' om).1 hBw)];exact(hj i' om).2.2 x' Q8
    have c7:wr.cell? ⟨jb i',y',none⟩=some (.int .i64 (oi (aL p (2 ^ i') y'))):=by rw[hbr.cell (Nat.lt_of_lt_of_le (hj i' om).1 hBw)];exact(hj i' om).2.2 y' Y6
    have ah3:(0:Int)≤i'∧(i':Int)<13:=om;clear hjj
    by_cases hne:oi (aL p (2 ^ i') x')=oi (aL p (2 ^ i') y')
    ·have HS2:=jh (S.same hne);rw[←hne] at c7;clear hne S;generalize oi (aL p (2 ^ i') x')=z at c6 c7;have hz:(z !=z)=false:=sj;go_wp2
     go_quiet (fail)
     go_wp2;go_roundw
     case rel=>exact⟨m,i',x',y',_,rfl,rfl,rfl,om,om,HS2.out,below_drewN hbr _⟩
     case measure=>simp[intOf]
    ·obtain⟨x2,y2,e1,e2,S2⟩:=S.go fU L hne;rw[e1,e2] at hne;rw[e1] at c6;rw[e2] at c7
     have hz:((x2:Int) !=(y2:Int))=true:=by simpa using hne
     have HS2:=jh S2;clear hne S S2 e1 e2;go_wp2
     go_quiet (fail)
     go_wp2;go_roundw
     case rel=>exact⟨m+2 ^ i',i',x2,y2,_,rfl,rfl,rfl,om,om,HS2.out,below_drewN hbr _⟩
     case measure=>simp[intOf]
theorem He (b B:Nat) (p:List Int) (x y:Int) (w:World) (h:TabAt w B b p) (hBw:B≤w.heap.size) (hT:qw w):
  Calls Tryz.prog 112 #[.pointer (some ⟨b,0,none⟩),.int .i64 x,.int .i64 y] w λe w'=>e=.returned (.tuple #[.int .i64 (TW p x y),.bool (NN p x y)])∧Below w.heap.size w w':=by
 cases hx:vK p x with
 |false=>
  have e1:NN p x y=false:=by simp[NN,hx]
  have e2:TW p x y=0:=by simp[TW,e1]
  rw[e1,e2];have H:=jh hx;clear hx e1 e2;go_in
  go_wp2_with (go_at_call 147;refine(iq H.out h).mono ?_;rintro e w' ⟨rfl,rfl⟩)
  go_ret2;exact⟨rfl,Below.refl _ _⟩
 |true=>
  cases hy:vK p y with
  |false=>
   have e1:NN p x y=false:=by simp[NN,hy]
   have e2:TW p x y=0:=by simp[TW,e1]
   rw[e1,e2];have H:=jh hx;clear hx e1 e2;have H2:=jh hy;clear hy;go_in;go_wp2_with fail;refine(iq H.out h).mono ?_;rintro e w' ⟨rfl,rfl⟩;go_wp2_with fail;refine(iq H2.out h).mono ?_;rintro e w' ⟨rfl,rfl⟩;go_wp2;go_ret2;exact⟨rfl,Below.refl _ _⟩
  |true=>
   obtain⟨x,rfl,hxl⟩:=fJ.1 hx;obtain⟨y,rfl,hyl⟩:=fJ.1 hy;obtain⟨x0,ex⟩:=ou h.tree (dp p x-min (dp p x) (dp p y)) x hxl om;obtain⟨y0,ey⟩:=ou h.tree (dp p y-min (dp p x) (dp p y)) y hyl om
   by_cases hle:dp p x≤dp p y
   ·exact MO b B p x y x0 y0 w h hBw hT ⟨hxl,hyl,ex,ey⟩ hle
   ·exact MQ b B p x y x0 y0 w h hBw hT ⟨hxl,hyl,ex,ey⟩ om
end
end Go.Proofs.YtpaeogglppampaaGreatDoor
