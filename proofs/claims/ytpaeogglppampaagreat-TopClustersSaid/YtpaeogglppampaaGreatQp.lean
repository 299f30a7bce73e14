/- Lemmas of the proof. Conditions: as each one states. -/
import Derived.Test.YtpaeogglppampaaGreatQn
import Derived.StillTailTactics
set_option maxRecDepth 100000
set_option maxHeartbeats 16000000
namespace Go.Proofs.YtpaeogglppampaaGreat
open Go.RowKit
structure Zone where
 low:Nat
 high:Nat
def Zone.has (z:Zone) (k:Nat):Prop:=z.low≤k∧k<z.high
structure Inner (z:Zone) (w w':World):Prop where
 dN:Below z.low w w'
 high:∀k,z.high≤k→w'.heap[k]?=w.heap[k]?
theorem Inner.refl (z:Zone) (w:World):Inner z w w:=⟨Below.refl _ _,λ_ _=>rfl⟩
theorem Inner.trans {z:Zone} {w w1 w2:World} (h:Inner z w w1) (h':Inner z w1 w2):Inner z w w2:=⟨h.dN.trans h'.dN,λk hk=>(h'.high k hk).trans (h.high k hk)⟩
theorem Inner.setCell {z:Zone} {w w1:World} (h:Inner z w w1) {p:Addr} (hp:z.has p.block) (v:Value):Inner z w (w1.setCell p v):=⟨h.dN.setCell hp.1 v,λk hk=>(Below.heap_setCell _ _ _ _ (oC hp.2)).trans (h.high k hk)⟩
theorem Inner.drewN {z:Zone} {w w1:World} (h:Inner z w w1) (q:Nat):Inner z w (w1.drewN q):=⟨below_drewN h.dN q,h.high⟩
theorem Inner.drew {z:Zone} {w w1:World} (h:Inner z w w1):Inner z w w1.drew:=⟨h.dN.drew,h.high⟩
theorem Inner.out {z:Zone} {w w1:World} (h:Inner z w w1) {k:Nat} (hk:¬z.has k):w1.heap[k]?=w.heap[k]?:=by
 by_cases c:k<z.low
 ·exact h.dN.block k c
 ·exact h.high k (by unfold Zone.has at hk;omega)
theorem Row.inner {z:Zone} {w w1:World} {g n:Nat} {f:Nat→Value} (h:Row w g n f) (hi:Inner z w w1) (hg:¬z.has g):Row w1 g n f:=h.of_block (hi.out hg)
theorem Mf {z:Zone} {w w1:World} {base:Nat} {e:TypeId} {size:Nat} {v:Value} {n:Nat} {xs:List Value} (h:w.ownsRow base e size v n xs) (hi:Inner z w w1) (hg:z.high≤base):w1.ownsRow base e size v n xs:=by
 obtain⟨h1,h2⟩:=h;refine⟨h1,h2.imp id ?_⟩;rintro⟨g,cap,cur,e1,e2,e3,e4⟩;exact⟨g,cap,cur,e1,e2,(hi.high g om).trans e3,e4⟩
structure UF (n:Nat) (up lab h:Nat→Nat) (H:Nat):Prop where
 lt:∀i<n,up i<n
 inc:∀i<n,up i≠i→h i<h (up i)
 bd:∀i<n,h i≤H
 par:∀i<n,lab (up i)=lab i
 one:∀i j,i<n→j<n→up i=i→up j=j→lab i=lab j→i=j
def bO (n:Nat) (lab:Nat→Nat) (i:Nat):Nat:=((List.range n).filter λj=>decide (lab j=lab i)).length
theorem mK (n:Nat) (lab:Nat→Nat) (i:Nat):bO n lab i≤n:=by
 have:=List.length_filter_le (λj=>decide (lab j=lab i)) (List.range n);unfold bO;simpa using this
theorem Kt (n:Nat) (k:Nat→Nat):iL n k≤n:=by
 have:=List.length_filter_le (λi=>decide (k i=i)) (List.range n);unfold iL;simpa using this
theorem UF.Sj {n:Nat} {up lab h:Nat→Nat} {H:Nat} (U:UF n up lab h H) {a:Nat} (ha:a<n) (hr:up a≠a):
  UF n (λi=>if i=a then up (up a) else up i) lab h H∧(∀i<n,((if i=a then up (up a) else up i)=i↔up i=i))∧h a<h (up (up a)):=by
 have hp:=U.lt a ha;have h1:=U.inc a ha hr
 have h2:h a<h (up (up a)):=by
  by_cases c:up (up a)=up a
  ·rw[c];exact h1
  ·have:=U.inc (up a) hp c;omega
 have hroot:∀i<n,((if i=a then up (up a) else up i)=i↔up i=i):=λi _=>by
  by_cases c:i=a
  ·subst c;rw[if_pos rfl];constructor
   ·intro e;rw[e] at h2;omega
   ·intro e;exact absurd e hr
  ·rw[if_neg c]
 refine⟨⟨λi hi=>?_,λi hi hne=>?_,U.bd,λi hi=>?_,λi j hi hj h3 h4 h5=>U.one i j hi hj ((hroot i hi).1 h3) ((hroot j hj).1 h4) h5⟩,hroot,h2⟩
 ·(try dsimp only);split
  ·exact U.lt _ hp
  ·exact U.lt i hi
 ·(try dsimp only at hne⊢)
  by_cases c:i=a
  ·subst c;rw[if_pos rfl];exact h2
  ·rw[if_neg c] at hne⊢;exact U.inc i hi hne
 ·(try dsimp only);split
  ·rename_i c;subst c;rw[U.par _ hp,U.par _ ha]
  ·exact U.par i hi
theorem UF.hang {n:Nat} {up lab h:Nat→Nat} {H:Nat} (U:UF n up lab h H) (K:dR lab) {a c x y:Nat} (hx:x<n) (hy:y<n) (rx:up x=x) (ry:up y=y) (hne:x≠y) (hl:(lab a=lab x∧lab c=lab y)∨(lab a=lab y∧lab c=lab x)):
  UF n (λi=>if i=y then x else up i) (aT lab a c) (λi=>if i=x then max (h x) (h y+1) else h i) (H+1):=by
 have hje:=sH K a c
 have hpar:∀i<n,aT lab a c (up i)=aT lab a c i:=λi hi=>by
  rw[hje];exact .inl (U.par i hi)
 refine⟨λi hi=>?_,λi hi hn=>?_,λi hi=>?_,λi hi=>?_,λi j hi hj h3 h4 h5=>?_⟩
 ·(try dsimp only);split
  ·exact hx
  ·exact U.lt i hi
 ·(try dsimp only at hn⊢)
  by_cases c1:i=y
  ·subst c1;rw[if_pos rfl,if_neg (λe=>hne e.symm),if_pos rfl];omega
  ·rw[if_neg c1] at hn⊢;have h1:=U.inc i hi hn
   by_cases c2:i=x
   ·subst c2;exact absurd rx hn
   ·rw[if_neg c2]
    by_cases c3:up i=x
    ·rw[if_pos c3];rw[c3] at h1;omega
    ·rw[if_neg c3];exact h1
 ·have:=U.bd i hi;have:=U.bd x hx;have:=U.bd y hy
  (try dsimp only);split<;>omega
 ·(try dsimp only);split
  ·rename_i c1;subst c1;rw[hje]
   rcases hl with⟨h1,h2⟩ |⟨h1,h2⟩
   ·exact .inr (.inl ⟨h1.symm,h2.symm⟩)
   ·exact .inr (.inr ⟨h2.symm,h1.symm⟩)
  ·exact hpar i hi
 ·(try dsimp only at h3 h4)
  have g1:i≠y:=λe=>by rw[if_pos e] at h3;exact hne (by rw[h3,e])
  have g2:j≠y:=λe=>by rw[if_pos e] at h4;exact hne (by rw[h4,e])
  rw[if_neg g1] at h3;rw[if_neg g2] at h4;rw[hje] at h5
  rcases h5 with h5 |⟨h5,h6⟩ |⟨h5,h6⟩
  ·exact U.one i j hi hj h3 h4 h5
  ·rcases hl with⟨h1,h2⟩ |⟨h1,h2⟩
   ·exact absurd (U.one j y hj hy h4 ry (h6.trans h2)) g2
   ·exact absurd (U.one i y hi hy h3 ry (h5.trans h1)) g1
  ·rcases hl with⟨h1,h2⟩ |⟨h1,h2⟩
   ·exact absurd (U.one i y hi hy h3 ry (h5.trans h2)) g1
   ·exact absurd (U.one j y hj hy h4 ry (h6.trans h1)) g2
theorem GY (k:Nat→Nat) (u v:Nat):aT k u v=aT k v u:=by
 funext i;unfold aT;rw[Nat.max_comm,Nat.min_comm]
theorem ED {k:Nat→Nat} {u v u' v':Nat} (h1:k u=k u') (h2:k v=k v'):aT k u v=aT k u' v':=by
 funext i;unfold aT;rw[h1,h2]
theorem Xr {n:Nat} {p q r:Nat→Bool} (h:∀i,r i=(p i||q i)) (hd:∀i,¬(p i=true∧q i=true)):((List.range n).filter r).length=((List.range n).filter p).length+((List.range n).filter q).length:=by
 induction n with
 |zero=>rfl
 |succ n ih=>
  rw[List.range_succ,List.filter_append,List.filter_append,List.filter_append,List.length_append,List.length_append,List.length_append,ih];have h1:=h n;have h2:=hd n
  cases hp:p n<;>cases hq:q n<;>simp[hp,hq] at h1 h2<;>simp[hp,hq,h1]<;>omega
theorem Am {n:Nat} {lab:Nat→Nat} (K:dR lab) {x y:Nat} (hne:lab x≠lab y) (i:Nat) (hi:lab i=lab x∨lab i=lab y):bO n (aT lab x y) i=bO n lab x+bO n lab y:=by
 unfold bO;refine Xr (λj=>?_) (λj=>?_)
 ·have:=sH K x y j i;rw[Bool.eq_iff_iff];simp only[Bool.or_eq_true,decide_eq_true_eq,this]
  rcases hi with hi |hi<;>omega
 ·simp only[decide_eq_true_eq];omega
theorem yg {n:Nat} {lab:Nat→Nat} (K:dR lab) {x y i:Nat} (h1:lab i≠lab x) (h2:lab i≠lab y):bO n (aT lab x y) i=bO n lab i:=by
 unfold bO
 congr 1
 refine List.filter_congr λj _=>?_;have:=sH K x y j i;rw[Bool.eq_iff_iff];simp only[decide_eq_true_eq,this];omega
def dsC (b ub lb sb n cnt:Nat):Nat→Value
 |0=>.pointer (some ⟨b,0,none⟩)
 |1=>.slice (some ⟨ub,0,none⟩) n n
 |2=>.slice (some ⟨lb,0,none⟩) n n
 |3=>.slice (some ⟨sb,0,none⟩) n n
 |_=>.int .i64 (cnt:Nat)
def iK (f:Nat→Nat) (i:Nat):Value:=.int .i64 (f i:Nat)
structure nP (w:World) (base:Zone) (b ub lb sb n:Nat) (up ls sz:Nat→Nat) (cnt:Nat):Prop where
 st:Row w b 5 (dsC b ub lb sb n cnt)
 rup:Row w ub n (iK up)
 rls:Row w lb n (iK ls)
 yI:Row w sb n (iK sz)
 ne:b≠ub∧b≠lb∧b≠sb∧ub≠lb∧ub≠sb∧lb≠sb
 lo:base.has b∧base.has ub∧base.has lb∧base.has sb
section
variable {w w':World} {base:Zone} {b ub lb sb n cnt:Nat} {up ls sz:Nat→Nat}
theorem nP.size (h:nP w base b ub lb sb n up ls sz cnt):b<w.heap.size∧ub<w.heap.size∧lb<w.heap.size∧sb<w.heap.size:=⟨h.st.lt,h.rup.lt,h.rls.lt,h.yI.lt⟩
theorem nP.below (h:nP w base b ub lb sb n up ls sz cnt) (hb:Below w.heap.size w w'):nP w' base b ub lb sb n up ls sz cnt:=
 ⟨h.st.below hb h.st.lt,h.rup.below hb h.rup.lt,h.rls.below hb h.rls.lt,h.yI.below hb h.yI.lt,h.ne,h.lo⟩
theorem nP.drewN (h:nP w base b ub lb sb n up ls sz cnt) (q:Nat):nP (w.drewN q) base b ub lb sb n up ls sz cnt:=⟨h.st,h.rup,h.rls,h.yI,h.ne,h.lo⟩
theorem nP.drew (h:nP w base b ub lb sb n up ls sz cnt):nP w.drew base b ub lb sb n up ls sz cnt:=⟨h.st,h.rup,h.rls,h.yI,h.ne,h.lo⟩
theorem wY (f:Nat→Nat) (i v j:Nat):(if j=i then Value.int .i64 (v:Nat) else iK f j)=iK (λk=>if k=i then v else f k) j:=by
 unfold iK
 by_cases c:j=i<;>simp[c]
theorem nP.rz (h:nP w base b ub lb sb n up ls sz cnt) (i v:Nat):nP (w.setCell ⟨ub,i,none⟩ (.int .i64 (v:Nat))) base b ub lb sb n (λk=>if k=i then v else up k) ls sz cnt:=
 ⟨h.st.setOther h.ne.1 _,(h.rup.set i _).congr λj _=>wY up i v j,h.rls.setOther (λe=>h.ne.2.2.2.1 e.symm) _,h.yI.setOther (λe=>h.ne.2.2.2.2.1 e.symm) _,h.ne,h.lo⟩
theorem nP.DJ (h:nP w base b ub lb sb n up ls sz cnt) (i v:Nat):nP (w.setCell ⟨lb,i,none⟩ (.int .i64 (v:Nat))) base b ub lb sb n up (λk=>if k=i then v else ls k) sz cnt:=
 ⟨h.st.setOther h.ne.2.1 _,h.rup.setOther h.ne.2.2.2.1 _,(h.rls.set i _).congr λj _=>wY ls i v j,h.yI.setOther (λe=>h.ne.2.2.2.2.2 e.symm) _,h.ne,h.lo⟩
theorem nP.PY (h:nP w base b ub lb sb n up ls sz cnt) (i v:Nat):nP (w.setCell ⟨sb,i,none⟩ (.int .i64 (v:Nat))) base b ub lb sb n up ls (λk=>if k=i then v else sz k) cnt:=
 ⟨h.st.setOther h.ne.2.2.1 _,h.rup.setOther h.ne.2.2.2.2.1 _,h.rls.setOther h.ne.2.2.2.2.2 _,(h.yI.set i _).congr λj _=>wY sz i v j,h.ne,h.lo⟩
theorem nP.A8 (h:nP w base b ub lb sb n up ls sz cnt) (v:Nat):nP (w.setCell ⟨b,4,none⟩ (.int .i64 (v:Nat))) base b ub lb sb n up ls sz v:=
 ⟨(h.st.set 4 _).congr λj hj=>by
  by_cases e:j=4
  ·subst e;rw[if_pos rfl];rfl
  ·rw[if_neg e];have:j=0∨j=1∨j=2∨j=3:=om
   rcases this with rfl |rfl |rfl |rfl<;>rfl,h.rup.setOther (λe=>h.ne.1 e.symm) _,h.rls.setOther (λe=>h.ne.2.1 e.symm) _,h.yI.setOther (λe=>h.ne.2.2.1 e.symm) _,h.ne,h.lo⟩
end
def DS (w:World) (base:Zone) (b n:Nat) (lab:Nat→Nat):Prop:=
 ∃(ub lb sb:Nat) (up ls sz h:Nat→Nat) (H:Nat),nP w base b ub lb sb n up ls sz (iL n lab)∧UF n up lab h H∧dR lab∧∀i<n,up i=i→ls i=lab i∧sz i=bO n lab i
theorem DS.below {w w':World} {base:Zone} {b n:Nat} {lab:Nat→Nat} (h:DS w base b n lab) (hb:Below w.heap.size w w'):DS w' base b n lab:=by
 obtain⟨ub,lb,sb,up,ls,sz,h,H,h1,h2⟩:=h;exact⟨ub,lb,sb,up,ls,sz,h,H,h1.below hb,h2⟩
theorem DS.zone {w w':World} {base:Zone} {b n:Nat} {lab:Nat→Nat} {B:Nat} (h:DS w base b n lab) (hb:Below B w w') (hB:base.high≤B):DS w' base b n lab:=by
 obtain⟨ub,lb,sb,up,ls,sz,h,H,h1,h2⟩:=h;refine⟨ub,lb,sb,up,ls,sz,h,H,⟨h1.st.below hb ?_,h1.rup.below hb ?_,h1.rls.below hb ?_,h1.yI.below hb ?_,h1.ne,h1.lo⟩,h2⟩
 ·have:=h1.lo.1.2;omega
 ·have:=h1.lo.2.1.2;omega
 ·have:=h1.lo.2.2.1.2;omega
 ·have:=h1.lo.2.2.2.2;omega
theorem DS.drew {w:World} {base:Zone} {b n:Nat} {lab:Nat→Nat} (h:DS w base b n lab):DS w.drew base b n lab:=by
 obtain⟨ub,lb,sb,up,ls,sz,h,H,h1,h2⟩:=h;exact⟨ub,lb,sb,up,ls,sz,h,H,h1.drew,h2⟩
theorem DS.widen {w:World} {z z':Zone} {b n:Nat} {lab:Nat→Nat} (h:DS w z b n lab) (h1:z'.low≤z.low) (h2:z.high≤z'.high):DS w z' b n lab:=by
 obtain⟨ub,lb,sb,up,ls,sz,h,H,m,r⟩:=h;have g:∀k,z.has k→z'.has k:=λk hk=>⟨Nat.le_trans h1 hk.1,Nat.lt_of_lt_of_le hk.2 h2⟩;exact⟨ub,lb,sb,up,ls,sz,h,H,⟨m.st,m.rup,m.rls,m.yI,m.ne,g _ m.lo.1,g _ m.lo.2.1,g _ m.lo.2.2.1,g _ m.lo.2.2.2⟩,r⟩
theorem DS.lt {w:World} {base:Zone} {b n:Nat} {lab:Nat→Nat} (h:DS w base b n lab):base.has b∧b<w.heap.size:=by
 obtain⟨ub,lb,sb,up,ls,sz,h,H,h1,h2⟩:=h;exact⟨h1.lo.1,h1.st.lt⟩
theorem Tryz.aax:(Tryz.prog.info? 314).isSome=true:=by kernel_rfl
theorem LY (a:Addr) (w:World):(binOp .eql 290 (.pointer (some a)) (.pointer (some a))).run Tryz.prog w=.ok (.bool true) w:=by
 obtain⟨j,hj⟩:=Option.isSome_iff_exists.1 Tryz.aax;exact run_eql_ptr_same w a Tryz.underlying290 hj
theorem Ag (b:Nat) (w:World) (h:w.cell? ⟨b,0,none⟩=some (.pointer (some ⟨b,0,none⟩))):
  Calls Tryz.prog 222 #[.pointer (some ⟨b,0,none⟩)] w λe w'=>e=.returned (.bool true)∧w=w':=by
 have eq:=LY ⟨b,0,none⟩;go_in;go_wp2;go_ret;exact⟨rfl,rfl⟩
theorem Kq (b ub n a c:Nat) (w:World) (h:w.cell? ⟨b,0,none⟩=some (.pointer (some ⟨b,0,none⟩))) (h1:w.cell? ⟨b,1,none⟩=some (.slice (some ⟨ub,0,none⟩) n c)) (ha:a<n):
  Calls Tryz.prog 223 #[.pointer (some ⟨b,0,none⟩),.int .i64 (a:Nat)] w λe w'=>e=.returned (.bool true)∧w=w':=by
 have HV:=jh (Ag b w h);have k1:decide ((a:Int)≥0)=true:=dP om;have k2:decide ((a:Int)<(n:Int))=true:=dP om;go_in;go_wp2_with fail;apply mO HV;rintro e w' ⟨rfl,rfl⟩;go_wp2;go_ret;exact⟨rfl,rfl⟩
theorem Ai (base:Zone) (b ub lb sb n cnt:Nat) (up ls sz lab h:Nat→Nat) (H a:Nat) (w:World) (hM:nP w base b ub lb sb n up ls sz cnt) (hU:UF n up lab h H) (ha:a<n):
  Calls Tryz.prog 224 #[.pointer (some ⟨b,0,none⟩),.int .i64 (a:Nat)] w λe w'=>∃(r:Nat) (up':Nat→Nat),e=.returned (.int .i64 (r:Nat))∧r<n∧up' r=r∧lab r=lab a∧nP w' base b ub lb sb n up' ls sz cnt∧UF n up' lab h H∧(∀i<n,(up' i=i↔up i=i))∧Inner base w w':=by
 have HM:=jh hM;have HU:=jh hU;clear hM hU;go_in;go_wp2
 go_step3
 go_wp2
 go_step3
 go_wp2
 go_loopw [1] (λi wr=>∃(x:Nat) (u:Nat→Nat),x<n∧i=.int .i64 x∧lab x=lab a∧Hid (nP wr base b ub lb sb n u ls sz cnt)∧Hid (UF n u lab h H)∧Hid (∀i<n,(u i=i↔up i=i))∧Inner base w wr) (λi _=>H-h (intOf i).toNat)
 case atStart=>exact⟨a,up,ha,rfl,rfl,HM,HU,jh (λ_ _=>Iff.rfl),Inner.refl _ _⟩
 case round=>
  clear HM HU;obtain⟨x,u,hx,rfl,hla,HM,HU,HI,dN⟩:=hrel;have c1:wr.cell? ⟨b,1,none⟩=some (.slice (some ⟨ub,0,none⟩) n n):=HM.out.st.c 1;have c2:wr.cell? ⟨ub,x,none⟩=some (.int .i64 (u x:Nat)):=HM.out.rup.cell hx;have hxi:(0:Int)≤x∧(x:Int)<n:=om
  by_cases hr:u x=x
  ·have hz:(((u x:Nat):Int)==(x:Int))=true:=by simp[hr]
   have HR:=jh hr;generalize u x=p at c2 hz⊢;clear hr;go_wp2_with fail;rw[Exit.noGoto_ret];go_ret;exact⟨x,u,rfl,hx,HR.out,hla,HM.out,HU.out,HI.out,dN⟩
  ·have hz:(((u x:Nat):Int)==(x:Int))=false:=by simp;omega
   have hp:=HU.out.lt x hx;have c3:wr.cell? ⟨ub,u x,none⟩=some (.int .i64 (u (u x):Nat)):=HM.out.rup.cell hp;have hpi:(0:Int)≤(u x:Nat)∧((u x:Nat):Int)<n:=om;have z1:=HM.out.rup.frozen x;obtain⟨U2,hroot,hlt2⟩:=HU.out.Sj hx hr;have hinc:=HU.out.inc x hx hr;have hpp:=HU.out.lt _ hp;have M2:=HM.out.rz x (u (u x))
   have aj5:lab (u (u x))=lab a:=by rw[HU.out.par _ hp,HU.out.par _ hx,hla]
   have c4:(wr.setCell ⟨ub,x,none⟩ (.int .i64 (u (u x):Nat))).cell? ⟨b,1,none⟩=some (.slice (some ⟨ub,0,none⟩) n n):=M2.st.c 1
   have c5:(wr.setCell ⟨ub,x,none⟩ (.int .i64 (u (u x):Nat))).cell? ⟨ub,x,none⟩=some (.int .i64 (u (u x):Nat)):=by have:=M2.rup.cell hx;rw[iK,if_pos rfl] at this;exact this
   have Uh:=jh U2;have kC:=jh M2;have HR2:=jh hroot
   have aj1:H-h (u (u x))<H-h x:=by
    have:=HU.out.bd _ hpp;omega
   clear hlt2;clear U2 M2 hroot hinc hr;have hlo:=HM.out.lo.2.1;have UY:=jh (λi hi=>(HR2.out i hi).trans (HI.out i hi));clear HR2 HI HM HU;go_wp2
   go_still_tail 12,(by kernel_rfl)
   go_wp2;go_roundw
   case rel=>exact⟨u (u x),_,hpp,rfl,aj5,jh (kC.out.drewN 1),Uh,UY,(dN.setCell (p:=⟨ub,x,none⟩) hlo _).drew⟩
   case measure=>simpa only[intOf,Int.toNat_natCast] using aj1
theorem DS.ajL {w:World} {base:Zone} {b ub lb sb n cnt:Nat} {up ls sz lab h:Nat→Nat} {H a c x y:Nat} (U:UF n up lab h H) (K:dR lab) (hls:∀i<n,up i=i→ls i=lab i∧sz i=bO n lab i) (hx:x<n) (hy:y<n) (rx:up x=x) (ry:up y=y) (hne:x≠y)
  (hl:(lab a=lab x∧lab c=lab y)∨(lab a=lab y∧lab c=lab x)) (hcnt:cnt+1=iL n lab)
  (hM:nP w base b ub lb sb n (λk=>if k=y then x else up k) (λk=>if k=x then min (lab x) (lab y) else ls k) (λk=>if k=x then sz x+sz y else sz k) cnt):DS w base b n (aT lab a c):=by
 have ae0:lab x≠lab y:=λe=>hne (U.one x y hx hy rx ry e)
 have hj:aT lab a c=aT lab x y:=by
  rcases hl with⟨h1,h2⟩ |⟨h1,h2⟩
  ·exact ED h1 h2
  ·rw[GY];exact ED h2 h1
 have hcn:iL n (aT lab x y)+1=iL n lab:=uN K hx hy ae0;rw[hj];refine⟨ub,lb,sb,_,_,_,_,_,(by rw[show iL n (aT lab x y)=cnt by omega];exact hM),by rw[←hj];exact U.hang K hx hy rx ry hne hl,EC K x y,λi hi hr=>?_⟩
 by_cases e1:i=y
 ·rw[if_pos e1] at hr;exact absurd (hr.trans e1) hne
 ·rw[if_neg e1] at hr
  by_cases e2:i=x
  ·subst e2;rw[if_pos rfl,if_pos rfl];refine⟨?_,?_⟩
   ·unfold aT
    split
    ·rfl
    ·rename_i c1;have:lab i≤lab y∨lab y≤lab i:=Nat.le_total _ _;omega
   ·rw[Am K ae0 i (.inl rfl),(hls i hx rx).2,(hls y hy ry).2]
  ·rw[if_neg e2,if_neg e2];have h1:lab i≠lab x:=λe=>e2 (U.one i x hi hx hr rx e);have h2:lab i≠lab y:=λe=>e1 (U.one i y hi hy hr ry e);refine⟨?_,?_⟩
   ·rw[(hls i hi hr).1];unfold aT;rw[if_neg om]
   ·rw[(hls i hi hr).2,yg K h1 h2]
theorem Lv (base:Zone) (b n:Nat) (lab:Nat→Nat) (a c:Nat) (w:World) (hD:DS w base b n lab) (ha:a<n) (hc:c<n) (hn:n≤65536):
  Calls Tryz.prog 189 #[.pointer (some ⟨b,0,none⟩),.int .i64 (a:Nat),.int .i64 (c:Nat)] w λe w'=>e=.returned (.tuple #[.bool (decide (lab a≠lab c)),.int .i64 0])∧DS w' base b n (aT lab a c)∧Inner base w w':=by
 obtain⟨ub,lb,sb,up,ls,sz,h,H,hM,hU,hK,hls⟩:=hD;have c0:w.cell? ⟨b,0,none⟩=some (.pointer (some ⟨b,0,none⟩)):=hM.st.c 0;have c1:w.cell? ⟨b,1,none⟩=some (.slice (some ⟨ub,0,none⟩) n n):=hM.st.c 1;have HV:=jh (Ag b w c0);have HA:=jh (Kq b ub n a n w c0 c1 ha);have HC:=jh (Kq b ub n c n w c0 c1 hc);have HR1:=jh (Ai base b ub lb sb n (iL n lab) up ls sz lab h H a w hM hU ha);have HK:=jh hK;have HLS:=jh hls;clear hM hU hK hls c0 c1;go_in;go_wp2_with fail;apply mO HV;rintro e w' ⟨rfl,rfl⟩;go_wp2_with fail;apply mO HA;rintro e w' ⟨rfl,rfl⟩;go_wp2_with fail;apply mO HC;rintro e w' ⟨rfl,rfl⟩;go_wp2_with fail;apply mO HR1;rintro e w1 ⟨x,up1,rfl,hx,rx1,lx,hM1,hU1,hI1,hb1⟩;have HR2:=jh (Ai base b ub lb sb n (iL n lab) up1 ls sz lab h H c w1 hM1 hU1 hc);clear HV HA HC HR1 hM1 hU1;go_wp2_with fail;apply mO HR2;rintro e w2 ⟨y,Lu,rfl,hy,ry,ly,hM2,YZ,hI2,hb2⟩;have rx:=(hI2 x hx).2 rx1;have nH:=hb1.trans hb2;have aeZ:∀i<n,Lu i=i→ls i=lab i∧sz i=bO n lab i:=λi hi hr=>HLS.out i hi ((hI1 i hi).1 ((hI2 i hi).1 hr));have kC:=jh hM2;have Uh:=jh YZ;have HL2:=jh aeZ;have HLX:=jh lx;have HLY:=jh ly;have Zq:=jh rx;have Zp:=jh ry;clear HR2 hI1 hI2 HLS hM2 YZ aeZ rx1 rx ry hb1 hb2 lx ly
 by_cases hxy:x=y
 ·subst hxy;have HE:=jh (show lab a=lab c from HLX.out.symm.trans HLY.out);have hz:((x:Int)==(x:Int))=true:=sj;go_wp2;go_ret2;refine⟨by rw[dF (λhh=>hh HE.out)];rfl,?_,nH⟩;rw[xK HE.out];exact⟨ub,lb,sb,Lu,ls,sz,h,H,kC.out,Uh.out,HK.out,HL2.out⟩
 ·have hz:((x:Int)==(y:Int))=false:=by simp;omega
  have U5:=jh (show lab x≠lab y from λe=>hxy (Uh.out.one x y hx hy Zq.out Zp.out e));have hcn:=uN HK.out hx hy U5.out;have hcl:=Kt n lab;obtain⟨cn,afk⟩:∃cn,cn+1=iL n lab:=⟨iL n (aT lab x y),hcn⟩;have aqZ:cn≤65536:=om;have HCN:=jh afk
  have Oc:=jh (fun(w3:World) (X Y:Nat) (hX:X<n) (hY:Y<n) (rX:Lu X=X) (rY:Lu Y=Y) (hN:X≠Y) (hl:(lab a=lab X∧lab c=lab Y)∨(lab a=lab Y∧lab c=lab X)) (hM:nP w3 base b ub lb sb n (λk=>if k=Y then X else Lu k) (λk=>if k=X then min (lab X) (lab Y) else ls k) (λk=>if k=X then sz X+sz Y else sz k) cn)=>
   DS.ajL (a:=a) (c:=c) Uh.out HK.out HL2.out hX hY rX rY hN hl HCN.out hM)
  have hEq:Hid (decide (lab a≠lab c)=true):=jh (dP (by rw[←HLX.out,←HLY.out];exact U5.out));have Xl:Hid (decide (lab a=lab c)=false):=jh (dF (by rw[←HLX.out,←HLY.out];exact U5.out))
  have hkc:IntKind.i64.wrap ((iL n lab:Nat)-1)=(cn:Nat):=by rw[IntWalk.i64_in _ om];omega
  have s1:∀q,(w2.drewN q).cell? ⟨b,3,none⟩=some (.slice (some ⟨sb,0,none⟩) n n):=λ_=>kC.out.st.c 3;have s2:∀q,(w2.drewN q).cell? ⟨sb,x,none⟩=some (.int .i64 (sz x:Nat)):=λ_=>kC.out.yI.cell hx;have s3:∀q,(w2.drewN q).cell? ⟨sb,y,none⟩=some (.int .i64 (sz y:Nat)):=λ_=>kC.out.yI.cell hy;have hxi:(0:Int)≤x∧(x:Int)<n:=om;have hyi:(0:Int)≤y∧(y:Int)<n:=om
  have hsx:sz x≤65536:=by rw[(HL2.out x hx Zq.out).2];exact Nat.le_trans (mK _ _ _) hn
  have hsy:sz y≤65536:=by rw[(HL2.out y hy Zp.out).2];exact Nat.le_trans (mK _ _ _) hn
  clear hcn hcl afk;go_wp2_with fail
  by_cases hlt:sz x<sz y
  ·have k1:decide (((sz x:Nat):Int)<((sz y:Nat):Int))=true:=dP om
   go_quiet (fail)
   clear s1 s2 s3 k1 hlt;have M3:=kC.out.drewN nq;have NW:Inner base w (w2.drewN nq):=nH.drewN nq;generalize w2.drewN nq=w3 at*;have d1:w3.cell? ⟨b,1,none⟩=some (.slice (some ⟨ub,0,none⟩) n n):=M3.st.c 1;have d2:w3.cell? ⟨ub,x,none⟩=some (.int .i64 (Lu x:Nat)):=M3.rup.cell hx;have d3:=M3.rup.frozen x;have M4:=M3.rz x y;have Fu:=NW.setCell (p:=⟨ub,x,none⟩) M3.lo.2.1 (.int .i64 y);clear M3 NW kC;go_wp2_with fail;generalize w3.setCell ⟨ub,x,none⟩ (.int .i64 y)=w4 at*;clear d1 d2 d3;have e1:w4.cell? ⟨b,3,none⟩=some (.slice (some ⟨sb,0,none⟩) n n):=M4.st.c 3;have e2:w4.cell? ⟨sb,y,none⟩=some (.int .i64 (sz y:Nat)):=M4.yI.cell hy;have e3:w4.cell? ⟨sb,x,none⟩=some (.int .i64 (sz x:Nat)):=M4.yI.cell hx;have e4:=M4.yI.frozen y;have hws:IntKind.i64.wrap (((sz y:Nat):Int)+((sz x:Nat):Int))=((sz y:Nat):Int)+((sz x:Nat):Int):=IntWalk.i64_in _ om
   have M5:nP (w4.setCell ⟨sb,y,none⟩ (.int .i64 (((sz y:Nat):Int)+((sz x:Nat):Int)))).drew base b ub lb sb n (λk=>if k=x then y else Lu k) ls (λk=>if k=y then sz y+sz x else sz k) (iL n lab):=by rw[←Int.natCast_add];exact(M4.PY y (sz y+sz x)).drew
   have Cr:=(Fu.setCell (p:=⟨sb,y,none⟩) M4.lo.2.2.2 (.int .i64 (((sz y:Nat):Int)+((sz x:Nat):Int)))).drew;clear M4 Fu
   go_still_tail 15,(by kernel_rfl)
   go_wp2_with fail;generalize (w4.setCell ⟨sb,y,none⟩ (.int .i64 (((sz y:Nat):Int)+((sz x:Nat):Int)))).drew=w5 at*;clear e1 e2 e3 e4 hws;have f1:w5.cell? ⟨b,2,none⟩=some (.slice (some ⟨lb,0,none⟩) n n):=M5.st.c 2
   have f2:w5.cell? ⟨lb,y,none⟩=some (.int .i64 (lab y:Nat)):=by rw[←(HL2.out y hy Zp.out).1];exact M5.rls.cell hy
   have f3:w5.cell? ⟨lb,x,none⟩=some (.int .i64 (lab x:Nat)):=by rw[←(HL2.out x hx Zq.out).1];exact M5.rls.cell hx
   have f4:=M5.rls.frozen y
   rcases Nat.lt_or_gt_of_ne (show lab y≠lab x from λe=>U5.out e.symm) with hc1 |hc1
   ·have hci:((lab y:Nat):Int)<((lab x:Nat):Int):=om;have hmin:min (lab y) (lab x)=lab y:=om;have M6:=M5.DJ y (lab y);have g1:(w5.setCell ⟨lb,y,none⟩ (.int .i64 (lab y:Nat))).cell? ⟨b,4,none⟩=some (.int .i64 (iL n lab:Nat)):=M6.st.c 4;have g2:=M6.st.frozen 4;have HF:=jh (Oc.out (((w5.setCell ⟨lb,y,none⟩ (.int .i64 (lab y:Nat))).setCell ⟨b,4,none⟩ (.int .i64 cn)).drew) y x hy hx Zp.out Zq.out (λe=>hxy e.symm) (.inr ⟨HLX.out.symm,HLY.out.symm⟩) (by rw[hmin];exact(M6.A8 cn).drew));have IC:=((Cr.setCell (p:=⟨lb,y,none⟩) M5.lo.2.2.1 (.int .i64 (lab y:Nat))).setCell (p:=⟨b,4,none⟩) M6.lo.1 (.int .i64 cn)).drew;clear M5 M6 Cr
    go_still_tail 20,(by kernel_rfl)
    go_wp2;go_ret2;exact⟨by first |(rw[hEq.out];rfl) |(rw[Xl.out];rfl),HF.out,IC⟩
   ·have hci:((lab x:Nat):Int)<((lab y:Nat):Int):=om;have hmin:min (lab y) (lab x)=lab x:=om;have M6:=M5.DJ y (lab x);have g1:(w5.setCell ⟨lb,y,none⟩ (.int .i64 (lab x:Nat))).cell? ⟨b,4,none⟩=some (.int .i64 (iL n lab:Nat)):=M6.st.c 4;have g2:=M6.st.frozen 4;have HF:=jh (Oc.out (((w5.setCell ⟨lb,y,none⟩ (.int .i64 (lab x:Nat))).setCell ⟨b,4,none⟩ (.int .i64 cn)).drew) y x hy hx Zp.out Zq.out (λe=>hxy e.symm) (.inr ⟨HLX.out.symm,HLY.out.symm⟩) (by rw[hmin];exact(M6.A8 cn).drew));have IC:=((Cr.setCell (p:=⟨lb,y,none⟩) M5.lo.2.2.1 (.int .i64 (lab x:Nat))).setCell (p:=⟨b,4,none⟩) M6.lo.1 (.int .i64 cn)).drew;clear M5 M6 Cr
    go_still_tail 20,(by kernel_rfl)
    go_wp2;go_ret2;exact⟨by first |(rw[hEq.out];rfl) |(rw[Xl.out];rfl),HF.out,IC⟩
  ·have k1:decide (((sz x:Nat):Int)<((sz y:Nat):Int))=false:=dF om
   go_quiet (fail)
   clear s1 s2 s3 k1 hlt;have M3:=kC.out.drewN nq;have NW:Inner base w (w2.drewN nq):=nH.drewN nq;generalize w2.drewN nq=w3 at*;have d1:w3.cell? ⟨b,1,none⟩=some (.slice (some ⟨ub,0,none⟩) n n):=M3.st.c 1;have d2:w3.cell? ⟨ub,y,none⟩=some (.int .i64 (Lu y:Nat)):=M3.rup.cell hy;have d3:=M3.rup.frozen y;have M4:=M3.rz y x;have Fu:=NW.setCell (p:=⟨ub,y,none⟩) M3.lo.2.1 (.int .i64 x);clear M3 NW kC;go_wp2_with fail;generalize w3.setCell ⟨ub,y,none⟩ (.int .i64 x)=w4 at*;clear d1 d2 d3;have e1:w4.cell? ⟨b,3,none⟩=some (.slice (some ⟨sb,0,none⟩) n n):=M4.st.c 3;have e2:w4.cell? ⟨sb,x,none⟩=some (.int .i64 (sz x:Nat)):=M4.yI.cell hx;have e3:w4.cell? ⟨sb,y,none⟩=some (.int .i64 (sz y:Nat)):=M4.yI.cell hy;have e4:=M4.yI.frozen x;have hws:IntKind.i64.wrap (((sz x:Nat):Int)+((sz y:Nat):Int))=((sz x:Nat):Int)+((sz y:Nat):Int):=IntWalk.i64_in _ om
   have M5:nP (w4.setCell ⟨sb,x,none⟩ (.int .i64 (((sz x:Nat):Int)+((sz y:Nat):Int)))).drew base b ub lb sb n (λk=>if k=y then x else Lu k) ls (λk=>if k=x then sz x+sz y else sz k) (iL n lab):=by rw[←Int.natCast_add];exact(M4.PY x (sz x+sz y)).drew
   have Cr:=(Fu.setCell (p:=⟨sb,x,none⟩) M4.lo.2.2.2 (.int .i64 (((sz x:Nat):Int)+((sz y:Nat):Int)))).drew;clear M4 Fu
   go_still_tail 15,(by kernel_rfl)
   go_wp2_with fail;generalize (w4.setCell ⟨sb,x,none⟩ (.int .i64 (((sz x:Nat):Int)+((sz y:Nat):Int)))).drew=w5 at*;clear e1 e2 e3 e4 hws;have f1:w5.cell? ⟨b,2,none⟩=some (.slice (some ⟨lb,0,none⟩) n n):=M5.st.c 2
   have f2:w5.cell? ⟨lb,x,none⟩=some (.int .i64 (lab x:Nat)):=by rw[←(HL2.out x hx Zq.out).1];exact M5.rls.cell hx
   have f3:w5.cell? ⟨lb,y,none⟩=some (.int .i64 (lab y:Nat)):=by rw[←(HL2.out y hy Zp.out).1];exact M5.rls.cell hy
   have f4:=M5.rls.frozen x
   rcases Nat.lt_or_gt_of_ne (show lab x≠lab y from U5.out) with hc1 |hc1
   ·have hci:((lab x:Nat):Int)<((lab y:Nat):Int):=om;have hmin:min (lab x) (lab y)=lab x:=om;have M6:=M5.DJ x (lab x);have g1:(w5.setCell ⟨lb,x,none⟩ (.int .i64 (lab x:Nat))).cell? ⟨b,4,none⟩=some (.int .i64 (iL n lab:Nat)):=M6.st.c 4;have g2:=M6.st.frozen 4;have HF:=jh (Oc.out (((w5.setCell ⟨lb,x,none⟩ (.int .i64 (lab x:Nat))).setCell ⟨b,4,none⟩ (.int .i64 cn)).drew) x y hx hy Zq.out Zp.out hxy (.inl ⟨HLX.out.symm,HLY.out.symm⟩) (by rw[hmin];exact(M6.A8 cn).drew));have IC:=((Cr.setCell (p:=⟨lb,x,none⟩) M5.lo.2.2.1 (.int .i64 (lab x:Nat))).setCell (p:=⟨b,4,none⟩) M6.lo.1 (.int .i64 cn)).drew;clear M5 M6 Cr
    go_still_tail 20,(by kernel_rfl)
    go_wp2;go_ret2;exact⟨by first |(rw[hEq.out];rfl) |(rw[Xl.out];rfl),HF.out,IC⟩
   ·have hci:((lab y:Nat):Int)<((lab x:Nat):Int):=om;have hmin:min (lab x) (lab y)=lab y:=om;have M6:=M5.DJ x (lab y);have g1:(w5.setCell ⟨lb,x,none⟩ (.int .i64 (lab y:Nat))).cell? ⟨b,4,none⟩=some (.int .i64 (iL n lab:Nat)):=M6.st.c 4;have g2:=M6.st.frozen 4;have HF:=jh (Oc.out (((w5.setCell ⟨lb,x,none⟩ (.int .i64 (lab y:Nat))).setCell ⟨b,4,none⟩ (.int .i64 cn)).drew) x y hx hy Zq.out Zp.out hxy (.inl ⟨HLX.out.symm,HLY.out.symm⟩) (by rw[hmin];exact(M6.A8 cn).drew));have IC:=((Cr.setCell (p:=⟨lb,x,none⟩) M5.lo.2.2.1 (.int .i64 (lab y:Nat))).setCell (p:=⟨b,4,none⟩) M6.lo.1 (.int .i64 cn)).drew;clear M5 M6 Cr
    go_still_tail 20,(by kernel_rfl)
    go_wp2;go_ret2;exact⟨by first |(rw[hEq.out];rfl) |(rw[Xl.out];rfl),HF.out,IC⟩
def bR (E:List Ed) (f:List Nat) (i:Nat):Nat→Nat:=bT E (f.take i)
def mU (E:List Ed) (f:List Nat) (i:Nat):Nat:=bR E f i (gP E (f.getD i 0)).1
def mV (E:List Ed) (f:List Nat) (i:Nat):Nat:=bR E f i (gP E (f.getD i 0)).2
def mA (E:List Ed) (f:List Nat) (i:Nat):Nat:=min (mU E f i) (mV E f i)
def mB (E:List Ed) (f:List Nat) (i:Nat):Nat:=max (mU E f i) (mV E f i)
structure Fo (n:Nat) (E:List Ed) (f:List Nat):Prop where
 ne:∀i<f.length,mU E f i≠mV E f i
 lu:∀i<f.length,(gP E (f.getD i 0)).1<n
 lv:∀i<f.length,(gP E (f.getD i 0)).2<n
def nd (E:List Ed) (f:List Nat) (n:Nat):Nat→Nat→Nat
 |0,a=>a
 |i+1,a=>if a=mA E f i then n+i else nd E f n i a
def lH (E:List Ed) (f:List Nat) (n x:Nat):Nat:=if x<n then x else mA E f (x-n)
def pk (E:List Ed) (f:List Nat) (n:Nat):Nat→Nat→Option Nat
 |0,_=>none
 |i+1,x=>if x=nd E f n i (mB E f i)∨x=nd E f n i (mA E f i) then some i else pk E f n i x
def nK (E:List Ed) (f:List Nat) (n x:Nat):Nat:=if x<n then 1 else bO n (bR E f (x-n+1)) (mA E f (x-n))
section
variable {n:Nat} {E:List Ed} {f:List Nat} {i j k x y a b:Nat}
theorem qI (E:List Ed) (f:List Nat) (i:Nat):dR (bR E f i):=pI E _
theorem oq (E:List Ed) (f:List Nat):bR E f 0=id:=by unfold bR;rw[List.take_zero];rfl
theorem iE (hi:i<f.length) (x:Nat):bR E f (i+1) x=if bR E f i x=mB E f i then mA E f i else bR E f i x:=by
 have h:f.take (i+1)=f.take i++[f.getD i 0]:=by
  rw[List.take_succ_eq_append_getElem hi];simp[List.getD,hi]
 have h2:bR E f (i+1)=aT (bR E f i) (gP E (f.getD i 0)).1 (gP E (f.getD i 0)).2:=by
  unfold bR;rw[h,pG]
 rw[h2];rfl
theorem uz (hi:i<f.length):bR E f (i+1)=aT (bR E f i) (gP E (f.getD i 0)).1 (gP E (f.getD i 0)).2:=by
 funext x;rw[iE hi];rfl
theorem ou (E:List Ed) (f:List Nat) (i x:Nat):bR E f i x≤x:=(qI E f i).le x
theorem jw (E:List Ed) (f:List Nat) (i x:Nat):bR E f i (bR E f i x)=bR E f i x:=(qI E f i).idem x
theorem mD (h:f.length≤i):bR E f i=bR E f f.length:=by
 unfold bR;rw[List.take_of_length_le h,List.take_of_length_le (Nat.le_refl _)]
theorem xg (E:List Ed) (f:List Nat) (i:Nat):bR E f i (mA E f i)=mA E f i:=by
 unfold mA mU mV
 rcases Nat.le_total (bR E f i (gP E (f.getD i 0)).1) (bR E f i (gP E (f.getD i 0)).2) with h |h
 ·rw[Nat.min_eq_left h];exact jw _ _ _ _
 ·rw[Nat.min_eq_right h];exact jw _ _ _ _
theorem Bz (E:List Ed) (f:List Nat) (i:Nat):bR E f i (mB E f i)=mB E f i:=by
 unfold mB mU mV
 rcases Nat.le_total (bR E f i (gP E (f.getD i 0)).1) (bR E f i (gP E (f.getD i 0)).2) with h |h
 ·rw[Nat.max_eq_right h];exact jw _ _ _ _
 ·rw[Nat.max_eq_left h];exact jw _ _ _ _
theorem Fo.mlt (F:Fo n E f) (hi:i<f.length):mA E f i<mB E f i:=by
 have:=F.ne i hi;unfold mA mB;omega
theorem Fo.vL (F:Fo n E f) (hi:i<f.length):mB E f i<n:=by
 have h1:=ou E f i (gP E (f.getD i 0)).1;have h2:=ou E f i (gP E (f.getD i 0)).2;have h3:=F.lu i hi;have h4:=F.lv i hi;unfold mB mU mV;omega
theorem Fo.qG (F:Fo n E f) (hi:i<f.length):mA E f i<n:=Nat.lt_trans (F.mlt hi) (F.vL hi)
theorem Ey (F:Fo n E f) (h:i≤j) (x:Nat):bR E f j x≤bR E f i x:=by
 induction j with
 |zero=>rw[Nat.le_zero.1 h];exact Nat.le_refl _
 |succ j ih=>
  by_cases e:i=j+1
  ·rw[e];exact Nat.le_refl _
  ·have:=ih om
   by_cases hj:j<f.length
   ·rw[iE hj];have:=F.mlt hj
    split<;>omega
   ·rw[mD (i:=j+1) om,←mD (i:=j) om];exact this
theorem GX (h:i≤j) (hx:bR E f i x=bR E f i y):bR E f j x=bR E f j y:=by
 induction j with
 |zero=>
  obtain rfl:i=0:=om;exact hx
 |succ j ih=>
  by_cases e:i=j+1
  ·rw[←e];exact hx
  ·have:=ih om
   by_cases hj:j<f.length
   ·rw[iE hj,iE hj,this]
   ·rw[mD (i:=j+1) om,←mD (i:=j) om];exact this
theorem JU (h:i≤j) (x:Nat):bR E f j (bR E f i x)=bR E f j x:=GX h (jw _ _ _ _)
theorem Ro (F:Fo n E f) (h:i≤j) (hx:bR E f j x=x):bR E f i x=x:=by
 have h1:=Ey F h x;have h2:=ou E f i x;omega
theorem wC (hi:i<f.length):bR E f (i+1) (mB E f i)=mA E f i:=by rw[iE hi,Bz,if_pos rfl]
theorem BA (F:Fo n E f) (hi:i<f.length):bR E f (i+1) (mA E f i)=mA E f i:=by
 have:=F.mlt hi;rw[iE hi,xg,if_neg om]
theorem lF (ha:a<n):nd E f n i a<n+i:=by
 induction i with
 |zero=>exact ha
 |succ i ih=>
  rw[nd];split
  ·omega
  ·omega
theorem aen (h:i<j):n+i≤nd E f n j (mA E f i):=by
 induction j with
 |zero=>omega
 |succ j ih=>
  rw[nd];split
  ·omega
  ·rename_i hc
   by_cases e:i=j
   ·subst e;exact absurd rfl hc
   ·exact ih om
theorem BD (h:x<n):lH E f n x=x:=if_pos h
theorem BF (E:List Ed) (f:List Nat) (n i:Nat):lH E f n (n+i)=mA E f i:=by
 unfold lH;rw[if_neg om,Nat.add_sub_cancel_left]
theorem mo (ha:a<n):lH E f n (nd E f n i a)=a:=by
 induction i with
 |zero=>exact BD ha
 |succ i ih=>
  rw[nd];split
  ·rename_i h;rw[BF,h]
  ·exact ih
theorem GI (ha:a<n) (hb:b<n) (h:nd E f n i a=nd E f n j b):a=b:=by
 have:=congrArg (lH E f n) h
 rwa [mo ha,mo hb] at this
theorem GH (F:Fo n E f) (hij:i<j) (hj:j≤f.length) (ha:a=mB E f i∨a=mA E f i) (hb:bR E f j b=b) (hbn:b<n):nd E f n j b≠nd E f n i a:=by
 intro h;have hi:i<f.length:=om
 have han:a<n:=by rcases ha with rfl |rfl;exact F.vL hi;exact F.qG hi
 have e:=GI hbn han h;subst e
 rcases ha with rfl |rfl
 ·have h1:=Ey F (show i+1≤j from hij) (mB E f i);rw[wC hi] at h1;have:=F.mlt hi;omega
 ·have h1:=aen (E:=E) (f:=f) (n:=n) hij;have h2:=lF (E:=E) (f:=f) (i:=i) han;omega
theorem rH (h:pk E f n k x=some i):i<k:=by
 induction k with
 |zero=>cases h
 |succ k ih=>
  rw[pk] at h;split at h
  ·cases h;omega
  ·have:=ih h;omega
theorem rG (h:pk E f n k x=some i):x=nd E f n i (mB E f i)∨x=nd E f n i (mA E f i):=by
 induction k with
 |zero=>cases h
 |succ k ih=>
  rw[pk] at h;split at h
  ·rename_i hc;cases h;exact hc
  ·exact ih h
theorem rJ (F:Fo n E f) (hk:k≤f.length) (h:pk E f n k x=some i):x<n+i:=by
 have hi:=rH h
 rcases rG h with rfl |rfl
 ·exact lF (F.vL om)
 ·exact lF (F.qG om)
theorem Ql (F:Fo n E f) (hk:k≤f.length) (hi:i<k) (h:x=nd E f n i (mB E f i)∨x=nd E f n i (mA E f i)):pk E f n k x=some i:=by
 induction k with
 |zero=>omega
 |succ k ih=>
  rw[pk]
  by_cases e:i=k
  ·subst e;rw[if_pos h]
  ·have hl:=F.mlt (show k<f.length by omega)
   have hn:∀a,a=mB E f i∨a=mA E f i→x=nd E f n i a→¬(x=nd E f n k (mB E f k)∨x=nd E f n k (mA E f k)):=λa ha hx hc=>by
    rcases hc with hc |hc
    ·exact GH F (show i<k by omega) om ha (Bz E f k) (F.vL om) (hc.symm.trans hx)
    ·exact GH F (show i<k by omega) om ha (xg E f k) (F.qG om) (hc.symm.trans hx)
   rw[if_neg (by rcases h with h |h;exact hn _ (.inl rfl) h;exact hn _ (.inr rfl) h)];exact ih om om
theorem aad (F:Fo n E f) (hk:k≤f.length) (h:pk E f n j x=some i) (hi:i<k):pk E f n k x=some i:=Ql F hk hi (rG h)
theorem VL (F:Fo n E f) (hk:k≤f.length) (hx:x<n+k) (h:pk E f n k x=none):bR E f k (lH E f n x)=lH E f n x∧nd E f n k (lH E f n x)=x∧lH E f n x<n:=by
 induction k with
 |zero=>rw[BD om];exact⟨by rw[oq];rfl,rfl,om⟩
 |succ k ih=>
  have hkf:k<f.length:=om
  by_cases e:x=n+k
  ·subst e;rw[BF];exact⟨BA F hkf,by rw[nd,if_pos rfl],F.qG hkf⟩
  ·rw[pk] at h
   split at h
   ·cases h
   ·rename_i hc;obtain⟨h1,h2,h3⟩:=ih om om h;have c1:lH E f n x≠mB E f k:=λe=>hc (.inl (by rw[←e,h2]));have c2:lH E f n x≠mA E f k:=λe=>hc (.inr (by rw[←e,h2]));exact⟨by rw[iE hkf,h1,if_neg c1],by rw[nd,if_neg c2,h2],h3⟩
theorem alive (F:Fo n E f) (hk:k≤f.length) (hx:x<n+k) (h:∀i,pk E f n f.length x=some i→k≤i):bR E f k (lH E f n x)=lH E f n x∧nd E f n k (lH E f n x)=x∧lH E f n x<n:=by
 refine VL F hk hx ?_
 cases hp:pk E f n k x with
 |none=>rfl
 |some i=>
  have h1:=rH hp;have h2:=h i (aad F (Nat.le_refl _) hp om);omega
theorem wL (h:x<n):nK E f n x=1:=if_pos h
theorem O9 (E:List Ed) (f:List Nat) (n i:Nat):nK E f n (n+i)=bO n (bR E f (i+1)) (mA E f i):=by
 unfold nK;rw[if_neg om,Nat.add_sub_cancel_left]
theorem Tm (h:a<n):bO n id a=1:=by
 have key:∀n,((List.range n).filter λj=>decide (id j=id a)).length=if a<n then 1 else 0:=by
  intro n
  induction n with
  |zero=>rfl
  |succ n ih=>
   rw[List.range_succ,List.filter_append,List.length_append,ih]
   by_cases e:n=a
   ·subst e;simp
   ·have e2:([n].filter λj=>decide (id j=id a)).length=0:=by simp[e]
    rw[e2]
    by_cases c:a<n
    ·rw[if_pos c,if_pos om]
    ·rw[if_neg c,if_neg om]
 unfold bO;rw[key,if_pos h]
theorem F5 (F:Fo n E f) (hi:i≤f.length) (ha:a<n) (hl:bR E f i a=a):nK E f n (nd E f n i a)=bO n (bR E f i) a:=by
 induction i with
 |zero=>rw[oq,Tm ha];exact wL ha
 |succ i ih=>
  have hif:i<f.length:=om;rw[nd]
  by_cases e:a=mA E f i
  ·rw[if_pos e,O9,e]
  ·rw[if_neg e];have h1:bR E f i a=a:=Ro F (Nat.le_succ i) hl
   have h2:a≠mB E f i:=λc=>by rw[c,wC hif] at hl;exact e (by rw[c,hl])
   rw[ih om h1,uz hif];refine(yg (qI E f i) (x:=(gP E (f.getD i 0)).1) (y:=(gP E (f.getD i 0)).2) ?_ ?_).symm
   ·intro c;rw[h1] at c;have c:a=mU E f i:=c;unfold mA mB at*;omega
   ·intro c;rw[h1] at c;have c:a=mV E f i:=c;unfold mA mB at*;omega
theorem qN {lab:Nat→Nat} (h:lab x=lab y):bO n lab x=bO n lab y:=by unfold bO;rw[h]
theorem Jr (F:Fo n E f) (hi:i<f.length):nK E f n (n+i)=nK E f n (nd E f n i (mA E f i))+nK E f n (nd E f n i (mB E f i)):=by
 rw[O9,F5 F om (F.qG hi) (xg E f i),F5 F om (F.vL hi) (Bz E f i),uz hi];have hne:=F.ne i hi;have key:=Am (n:=n) (qI E f i) (x:=(gP E (f.getD i 0)).1) (y:=(gP E (f.getD i 0)).2) hne (mA E f i)
 have hA:mA E f i=mU E f i∨mA E f i=mV E f i:=by unfold mA;omega
 have h1:bO n (bR E f i) (gP E (f.getD i 0)).1=bO n (bR E f i) (mU E f i):=qN (jw _ _ _ _).symm;have h2:bO n (bR E f i) (gP E (f.getD i 0)).2=bO n (bR E f i) (mV E f i):=qN (jw _ _ _ _).symm;rw[key (by rw[xg];exact hA),h1,h2]
 rcases Nat.le_total (mU E f i) (mV E f i) with h |h
 ·rw[show mA E f i=mU E f i from Nat.min_eq_left h,show mB E f i=mV E f i from Nat.max_eq_right h]
 ·rw[show mA E f i=mV E f i from Nat.min_eq_right h,show mB E f i=mU E f i from Nat.max_eq_left h,Nat.add_comm]
theorem AU (hn:0<n):nK E f n x≤n:=by
 unfold nK;split
 ·exact hn
 ·exact mK _ _ _
def CR (E:List Ed) (f:List Nat) (n k x:Nat):Nat:=if x<n+k then bR E f k (lH E f n x) else lH E f n x
theorem aak (F:Fo n E f) (h:pk E f n f.length x=some i) (hi:i<k):CR E f n k x=CR E f n k (n+i):=by
 have hif:=rH h;have hx:=rJ F (Nat.le_refl _) h;unfold CR;rw[if_pos om,if_pos om,BF]
 rcases rG h with rfl |rfl
 ·rw[mo (F.vL hif)];exact GX (i:=i+1) om (by rw[wC hif,BA F hif])
 ·rw[mo (F.qG hif)]
theorem JR (F:Fo n E f) (hk:k≤f.length) (h:∀i,pk E f n f.length x=some i→k≤i):CR E f n k x=lH E f n x:=by
 unfold CR;split
 ·rename_i hx;exact(alive F hk hx h).1
 ·rfl
theorem Ri (hx:x<n):CR E f n k x=bR E f k x:=by
 unfold CR;rw[if_pos om,BD hx]
theorem ZF (F:Fo n E f) (hu:a<n) (hj:j≤f.length) (h:pk E f n f.length (nd E f n j (bR E f j a))=some i):n+i=nd E f n (i+1) (bR E f (i+1) a):=by
 have hif:=rH h;have hla:bR E f j a<n:=Nat.lt_of_le_of_lt (ou _ _ _ _) hu
 have key:∀b,(b=mB E f i∨b=mA E f i)→b<n→bR E f i b=b→nd E f n j (bR E f j a)=nd E f n i b→n+i=nd E f n (i+1) (bR E f (i+1) a):=λb hb hbn hbl e=>by
  have e2:=GI hla hbn e
  by_cases hji:j≤i
  ·have h1:bR E f i a=b:=by rw[←JU hji,e2];exact hbl
   have h2:bR E f (i+1) a=mA E f i:=by
    rw[iE hif,h1]
    rcases hb with rfl |rfl
    ·rw[if_pos rfl]
    ·split<;>rfl
   rw[h2,nd,if_pos rfl]
  ·exact absurd e (GH F om om hb (jw _ _ _ _) hla)
 rcases rG h with e |e
 ·exact key _ (.inl rfl) (F.vL hif) (Bz _ _ _) e
 ·exact key _ (.inr rfl) (F.qG hif) (xg _ _ _) e
theorem Jg (F:Fo n E f) (hk:k≤f.length) (hu:a<n) (hj:j≤k) (h:∀i,pk E f n f.length (nd E f n j (bR E f j a))=some i→k≤i):nd E f n j (bR E f j a)=nd E f n k (bR E f k a):=by
 have hla:bR E f j a<n:=Nat.lt_of_le_of_lt (ou _ _ _ _) hu;have hx:nd E f n j (bR E f j a)<n+k:=oC (lF (E:=E) (f:=f) (i:=j) hla);obtain⟨g1,g2,_⟩:=alive F hk hx h;rw[mo hla] at g1 g2;rw[←g2]
 congr 1
 rw[←g1,JU hj]
end
section
variable {E:List Ed} {S T:Nat→Prop} {o:List Nat} {a b i k n:Nat}
theorem Tt (hs:o.Pairwise (qW E)):∀k∈o,CI E (λl=>l∈aM E o∧¬qW E k l) (gP E k).1 (gP E k).2:=by
 induction o using lY with
 |h0=>intro k hk;cases hk
 |h1 o i ih=>
  intro k hk;have hs1:=List.pairwise_append.1 hs
  have hsub:∀l∈aM E o,l∈aM E (o++[i]):=λl hl=>by
   rw[j6];split
   ·exact List.mem_append_left _ hl
   ·exact hl
  rcases List.mem_append.1 hk with hk |hk
  ·exact(ih hs1.1 k hk).mono λl hl=>⟨hsub l hl.1,hl.2⟩
  ·obtain rfl:k=i:=by simpa using hk
   by_cases hc:Fx E (bT E o) k=true
   ·exact abN ⟨by rw[j6,if_pos hc];simp,λc=>uw c c⟩
   ·have hc:bT E o (gP E k).1=bT E o (gP E k).2:=by simpa [Fx] using hc
    rw[←EA] at hc;exact(abO.2 hc).mono λl hl=>⟨hsub l hl,λc=>uw c (hs1.2.2 l ((kM E o).mem hl) k sj)⟩
theorem Tv (hs:o.Pairwise (qW E)) (hd:∀k l,S k→qW E l k→S l):CI E (λk=>k∈aM E o∧S k) a b↔CI E (λk=>k∈o∧S k) a b:=by
 constructor
 ·exact λh=>h.mono λk hk=>⟨(kM E o).mem hk.1,hk.2⟩
 ·refine λh=>XG (λk hk=>(Tt hs k hk.1).mono λl hl=>⟨hl.1,?_⟩) h
  by_cases e:l=k
  ·rw[e];exact hk.2
  ·exact hd k l hk.2 ((uq e).resolve_right hl.2)
theorem Nu {S:Nat→Bool} (ho:dO E o) (hd:∀k l,S k=true→qW E l k→S l=true):bT E ((List.range E.length).filter S)=bT E ((aM E o).filter S):=by
 have h1:bT E ((List.range E.length).filter S)=bT E (o.filter S):=Rp λi=>by
  rw[List.mem_filter,List.mem_filter,List.mem_range,ho.mem]
 rw[h1];unfold bT;refine zS λa b=>?_;rw[←Tw,←Tw];have hd:=Tv (S:=λi=>S i=true) (a:=a) (b:=b) ho.sorted hd;exact⟨λh=>(hd.2 (h.mono λi hi=>List.mem_filter.1 hi)).mono λi hi=>List.mem_filter.2 hi,λh=>(hd.1 (h.mono λi hi=>List.mem_filter.1 hi)).mono λi hi=>List.mem_filter.2 hi⟩
end
theorem SB {l l':List Nat} {i d:Nat} (h:i<l.length):(l++l').getD i d=l.getD i d:=by
 simp[List.getD,List.getElem?_append_left h]
theorem SA {l:List Nat} {x d:Nat}:(l++[x]).getD l.length d=x:=by simp[List.getD]
theorem Xp (E:List Ed) (o:List Nat):∀i<(aM E o).length,mU E (aM E o) i≠mV E (aM E o) i:=by
 induction o using lY with
 |h0=>intro i hi;rw[Xo] at hi;simp at hi
 |h1 o x ih=>
  intro i hi;rw[j6] at hi⊢
  split at hi
  ·rename_i hc;rw[if_pos hc]
   have ht:∀j≤(aM E o).length,(aM E o++[x]).take j=(aM E o).take j:=λj hj=>by rw[List.take_append_of_le_length hj]
   by_cases e:i<(aM E o).length
   ·have:=ih i e;unfold mU mV bR at this⊢;rw[ht i om,SB e];exact this
   ·have e:i=(aM E o).length:=by simp at hi;omega
    subst e;unfold mU mV bR;rw[ht _ (Nat.le_refl _),SA,List.take_length,EA];simpa [Fx] using hc
  ·rename_i hc;rw[if_neg hc];exact ih i hi
theorem Ie {n:Nat} {E:List Ed} {o:List Nat} (G:tX n E) (ho:dO E o):Fo n E (aM E o):=by
 have hm:∀i<(aM E o).length,(gP E ((aM E o).getD i 0)).1<n∧(gP E ((aM E o).getD i 0)).2<n:=λi hi=>by
  have h1:(aM E o).getD i 0∈aM E o:=by
   rw[List.getD_eq_getElem?_getD,List.getElem?_eq_getElem hi];exact List.getElem_mem _
  obtain⟨u,v,hu,hv,h2,h3,_⟩:=G.GJ (ho.mem.1 ((kM E o).mem h1));unfold gP;rw[hu,hv];simp;omega
 exact⟨Xp E o,λi hi=>(hm i hi).1,λi hi=>(hm i hi).2⟩
theorem uK {p:Nat→Bool}:∀{l:List Nat},l.Pairwise (λx y=>p y=true→p x=true)→l.filter p=l.take (l.filter p).length∧∀i<l.length,(p (l.getD i 0)=true↔i<(l.filter p).length)
 |[],_=>⟨rfl,λi hi=>by simp at hi⟩
 |x::t,h=>by
  have⟨h1,h2⟩:=List.pairwise_cons.1 h;obtain⟨i1,i2⟩:=uK h2
  by_cases c:p x=true
  ·have e:(x::t).filter p=x::t.filter p:=by simp[c]
   rw[e];refine⟨by rw[List.length_cons,List.take_succ_cons,←i1],λi hi=>?_⟩
   cases i with
   |zero=>simp[c]
   |succ i=>
    have:=i2 i (by simp at hi;omega);simp only[List.getD_cons_succ,List.length_cons,Nat.add_lt_add_iff_right];exact this
  ·have hn:t.filter p=[]:=List.filter_eq_nil_iff.2 λy hy hc=>c (h1 y hy hc)
   have e:(x::t).filter p=[]:=by simp[c,hn]
   rw[e];refine⟨rfl,λi hi=>?_⟩;simp only[List.length_nil,Nat.not_lt_zero,iff_false]
   cases i with
   |zero=>simpa using c
   |succ i=>
    intro hc
    have hi:i<t.length:=by simp at hi;omega
    have:=(i2 i hi).1 (by simpa using hc);rw[hn] at this;simp at this
def YI (f:List Nat) (S:Nat→Bool):Nat:=(f.filter S).length
theorem BL (f:List Nat) (S:Nat→Bool):YI f S≤f.length:=List.length_filter_le _ _
section
variable {E:List Ed} {o:List Nat} {S:Nat→Bool}
theorem EW (ho:dO E o) (hd:∀k l,S k=true→qW E l k→S l=true):(aM E o).Pairwise (λx y=>S y=true→S x=true):=
 (ho.sorted.sublist (kM E o)).imp fun{a b} hab hb=>hd b a hb hab
theorem J5 (ho:dO E o) (hd:∀k l,S k=true→qW E l k→S l=true) {i:Nat} (hi:i<(aM E o).length):S ((aM E o).getD i 0)=true↔i<YI (aM E o) S:=(uK (EW ho hd)).2 i hi
theorem Ws (ho:dO E o) (hd:∀k l,S k=true→qW E l k→S l=true):bR E (aM E o) (YI (aM E o) S)=bT E ((List.range E.length).filter S):=by
 rw[Nu ho hd,(uK (EW ho hd)).1];rfl
end
theorem xB {E:List Ed} {θ:Int}:∀k l,GU E θ k=true→qW E l k→GU E θ l=true:=λk l hk hl=>by
 unfold GU at*;simp only[decide_eq_true_eq] at*;unfold qW at hl;omega
def ltW (E:List Ed) (θ:Int) (i:Nat):Bool:=decide ((aO E i).w<θ)
theorem Kr {n:Nat} {E:List Ed} {f:List Nat} (F:Fo n E f):∀{i:Nat},i≤f.length→iL n (bR E f i)+i=n
 |0,_=>by rw[oq,Ku];rfl
 |i+1,h=>by
  have ih:=Kr F (show i≤f.length by omega);have hi:i<f.length:=om;have:=uN (n:=n) (qI E f i) (F.lu i hi) (F.lv i hi) (F.ne i hi);rw[uz hi];omega
def hgt (E:List Ed) (f:List Nat) (n x:Nat):Int:=if x<n then 0 else(aO E (f.getD (x-n) 0)).w
theorem aaP (E:List Ed) (f:List Nat) (n i:Nat):hgt E f n (n+i)=(aO E (f.getD i 0)).w:=by
 unfold hgt;rw[if_neg om,Nat.add_sub_cancel_left]
theorem abz {E:List Ed} {o:List Nat} (ho:dO E o) {i j:Nat} (hij:i<j) (hj:j<(aM E o).length):(aO E ((aM E o).getD i 0)).w≤(aO E ((aM E o).getD j 0)).w:=by
 have h:=ho.sorted.sublist (kM E o);have:=List.pairwise_iff_getElem.1 h i j om hj hij;rw[List.getD_eq_getElem?_getD,List.getElem?_eq_getElem (show i<(aM E o).length by omega),List.getD_eq_getElem?_getD,List.getElem?_eq_getElem hj];simp only[Option.getD_some];unfold qW at this;omega
theorem aaO {E:List Ed} {o:List Nat} {n:Nat} (ho:dO E o) {i:Nat} (hi:i<(aM E o).length) (θ:Int):hgt E (aM E o) n (n+i)≤θ↔i<YI (aM E o) (GU E θ):=by
 rw[aaP,←J5 ho xB hi];unfold GU;simp
section
variable {w:World} {b g n cap i j:Nat} {σ:Sg} {li tt:Nat→Int} {ed:Int}
theorem uW (h:bU w b g n cap σ li tt ed) (hi:i≤n) (hj:j≤n):
  Calls Tryz.prog 171 #[.pointer (some ⟨b,0,none⟩),.int .i64 (i:Nat),.int .i64 (j:Nat)] w λe w'=>e=.returned (.bool (decide (Bf σ i j)))∧∃q,w'=w.drewN q:=by
 obtain⟨N,hN⟩:=nE (n+1);have c1:=h.c1;rw[hN] at c1;have ci:=h.nr.c4 hi;have cj:=h.nr.c4 hj;have bi:(0:Int)≤i∧(i:Int)<N:=om;have bj:(0:Int)≤j∧(j:Int)<N:=om;have HB:=jh (show Bf σ i j↔((σ i).key<(σ j).key∨(σ i).key=(σ j).key∧i<j) from Iff.rfl);generalize (σ i).key=x at ci HB;generalize (σ j).key=y at cj HB;clear h hi hj hN
 by_cases k1:x<y
 ·have d1:decide (x<y)=true:=dP k1;have HE:=jh (dP (HB.out.2 (.inl k1)));clear k1 HB;go_in;go_wp2
  go_quiet (fail)
  go_wp2;go_ret;exact⟨by rw[HE.out];rfl,_,rfl⟩
 ·have d1:decide (x<y)=false:=dF k1
  by_cases k2:x=y
  ·have d2:(x==y)=true:=by simp[k2]
   by_cases k3:i<j
   ·have d3:decide (i<j)=true:=dP k3;have HE:=jh (dP (HB.out.2 (.inr ⟨k2,k3⟩)));clear k1 k2 k3 HB;go_in;go_wp2
    go_quiet (fail)
    go_wp2;go_ret;exact⟨by rw[HE.out];rfl,_,rfl⟩
   ·have d3:decide (i<j)=false:=dF k3;have HE:=jh (dF (λe=>by rcases HB.out.1 e with e |⟨_,e⟩;exact k1 e;exact k3 e));clear k1 k2 k3 HB;go_in;go_wp2
    go_quiet (fail)
    go_wp2;go_ret;exact⟨by rw[HE.out];rfl,_,rfl⟩
  ·have d2:(x==y)=false:=by simp[k2]
   have HE:=jh (dF (λe=>by rcases HB.out.1 e with e |⟨e,_⟩;exact k1 e;exact k2 e));clear k1 k2 HB;go_in;go_wp2
   go_quiet (fail)
   go_wp2;go_ret;exact⟨by rw[HE.out];rfl,_,rfl⟩
theorem zu (n:Int) (h:-9223372036854775808≤n∧n≤9223372036854775807):wrap64 n=n:=by unfold wrap64;omega
theorem vV (σ:Sg) (i:Nat) (x:Nd) (h:x.key=(σ i).key) (j:Nat):((σ.put i x) j).key=(σ j).key:=by
 by_cases c:j=i
 ·rw[c,Sg.put_eq,h]
 ·rw[Sg.bF _ _ c]
theorem Sg.jJ (σ:Sg) (i:Nat) (x y:Nd):(σ.put i x).put i y=σ.put i y:=by
 funext j;unfold Sg.put;split<;>rfl
def yT (σ:Sg) (i:Nat):Nat→Int
 |0=>1
 |1=>1+FM σ (σ i).k0
 |_=>1+FM σ (σ i).k0+FM σ (σ i).k1
def CK (σ:Sg) (i:Nat):Nat→Nat
 |0=>i
 |1=>Ii σ i (σ i).k0
 |_=>Ii σ (Ii σ i (σ i).k0) (σ i).k1
theorem adT {n:Nat} {σ:Sg} {k:Nat} (h:k≠0→0≤(σ k).sz∧(σ k).sz≤n∧(σ k).fi≤n):0≤FM σ k∧FM σ k≤n:=by
 unfold FM;split
 ·omega
 ·rename_i c;have:=h c;omega
theorem afO {n:Nat} {σ:Sg} {k m:Nat} (h:k≠0→0≤(σ k).sz∧(σ k).sz≤n∧(σ k).fi≤n) (hm:m≤n):Ii σ m k≤n:=by
 unfold Ii;split
 ·exact hm
 ·rename_i c
  split
  ·exact(h c).2.2
  ·exact hm
theorem Yy {n:Nat} {σ:Sg} {i:Nat} (R:kP n σ i) (r:Nat) (hr:r<2):1≤yT σ i r∧yT σ i r≤1+r*(n:Int):=by
 have h0:=adT R.s0;have:r=0∨r=1:=om
 rcases this with rfl |rfl
 ·simp only[yT];omega
 ·simp only[yT];omega
theorem Yz {n:Nat} {σ:Sg} {i:Nat} (R:kP n σ i) (r:Nat) (hr:r<2):CK σ i r≤n:=by
 have:r=0∨r=1:=om
 rcases this with rfl |rfl
 ·exact R.le
 ·exact afO R.s0 R.le
theorem aQ (h:bU w b g n cap σ li tt ed) (R:kP n σ i) (hn:n≤1000000):
  Calls Tryz.prog 127 #[.pointer (some ⟨b,0,none⟩),.int .i64 (i:Nat)] w λe w'=>e=.returned (.tuple #[])∧(∃jf,bU w' b g n cap (dH σ i) li jf ed)∧Off [g] w w':=by
 obtain⟨N,hN⟩:=nE (n+1);have c1:=h.c1;rw[hN] at c1;have hi:=R.le;have bi:(0:Int)≤i∧(i:Int)<N:=om;have k7:=h.nr.c7 hi;have f5:=h.nr.fz (i*9+5);have f6:=h.nr.fz (i*9+6);have f8:=h.nr.fz (i*9+8);have k5:=h.nr.c5 hi;have k6:=h.nr.c6 hi;have k8:=h.nr.c8 hi;have k0:=h.nr.c0 hi;have k1:=h.nr.c1 hi;obtain⟨w1,hw1⟩:=nE (((w.setCell ⟨g,i*9+5,none⟩ (.int .i64 1)).setCell ⟨g,i*9+6,none⟩ (.int .i64 i)).setCell ⟨g,i*9+8,none⟩ (.int .i64 (wrap64 (1+li i))))
 have HL:Hid (bU w1 b g n cap (σ.put i { σ i with sz:=1,fi:=i }) li (lU tt i (wrap64 (1+li i))) ed):=jh (by
  rw[←hw1];have hne:=h.ne;have h1:=((h.nr.s5 i 1).s6 i i).s8 i (wrap64 (1+li i));rw[Sg.put_eq,Sg.jJ] at h1
  exact h.nodes ((((Off.refl [g] w).setCell sj _).setCell sj _).setCell sj _) h1)
 have HO:Hid (Off [g] w w1):=jh (by
  rw[←hw1];exact(((Off.refl [g] w).setCell sj _).setCell sj _).setCell sj _)
 obtain⟨q0,e0⟩:=nE ((σ i).k0);obtain⟨q1,e1⟩:=nE ((σ i).k1);rw[e0] at k0;rw[e1] at k1;have HR:=jh R;have HE0:=jh e0;have HE1:=jh e1;have HN:=jh hN;have U4:=jh hn;have HW1:=jh hw1;clear h R e0 e1 hN hi hw1 hn;go_in;go_wp2_with fail;rw[HW1.out];clear HW1 c1 k7 f5 f6 f8 k5 k6 k8 k0 k1
 go_loopw [33] (λiv wr=>∃r:Nat,r≤2∧iv=.int .i64 r∧Hid (∃jf,bU wr b g n cap (σ.put i { σ i with sz:=yT σ i r,fi:=CK σ i r }) li jf ed)∧Hid (Off [g] w wr)) (λiv _=>2-(intOf iv).toNat)
 case atStart=>exact⟨0,om,rfl,jh ⟨_,HL.out⟩,HO⟩
 case round=>
  clear HL HO;obtain⟨r,hr,rfl,HL,HO⟩:=hrel;obtain⟨jf,hL⟩:=HL.out;clear HL;have hr3:r=0∨r=1∨r=2:=om
  rcases hr3 with rfl |rfl |rfl
  ·obtain⟨Z,hZ⟩:=nE (yT σ i 0);obtain⟨M,hM⟩:=nE (CK σ i 0);rw[hZ,hM] at hL;have HZ:=jh hZ;have HM:=jh hM
   have HZb:Hid (1≤Z∧Z≤1+0*(n:Int)):=jh (by
    rw[←hZ];exact Yy HR.out 0 om)
   have HMb:Hid (M≤n):=jh (by rw[←hM];exact Yz HR.out 0 om);have c1:=hL.c1;rw[HN.out] at c1;have k5:=hL.nr.c5 HR.out.le;have k6:=hL.nr.c6 HR.out.le;have k8:=hL.nr.c8 HR.out.le;rw[Sg.put_eq] at k5 k6;have f5:=hL.nr.fz (i*9+5);have f6:=hL.nr.fz (i*9+6);have f8:=hL.nr.fz (i*9+8);clear hZ hM
   have i0:∀w,(Instr.index 223 (.agg #[.int .i64 q0,.int .i64 q1]) (.int .i64 0)).run Tryz.prog w=.ok (.int .i64 q0) w:=λ_=>by kernel_rfl
   by_cases h0:q0=0
   ·have d0:(((q0:Nat):Int)==0)=true:=by simp[h0]
    have d0':(q0==0)=true:=by simp[h0]
    have Uq:Hid (∃jf,bU wr b g n cap (σ.put i { σ i with sz:=yT σ i 1,fi:=CK σ i 1 }) li jf ed):=jh ⟨jf,by
     have e1:yT σ i 1=Z:=by rw[←HZ.out];simp only[yT,FM,HE0.out];simp[h0]
     have e2:CK σ i 1=M:=by rw[←HM.out];simp only[CK,Ii,HE0.out];simp[h0]
     rw[e1,e2];exact hL⟩
    clear hL k5 k6 k8 f5 f6 f8 c1 h0;go_wp2;go_roundw
    case rel=>exact⟨1,om,rfl,Uq,HO⟩
    case measure=>simp only[intOf];omega
   ·have hq0:q0≠0:=h0
    have hqi:q0≠i:=by have:=HR.out.n0;rw[HE0.out] at this;exact this
    have zU:q0≤n:=by have:=HR.out.l0;rw[HE0.out] at this;exact this
    have hs:=HR.out.s0;rw[HE0.out] at hs;obtain⟨hs0,hs1,hs2⟩:=hs hq0
    have d0:(((q0:Nat):Int)==0)=false:=by simp;omega
    have bq:(0:Int)≤q0∧(q0:Int)<N:=oC HN.out;have eq2:(σ.put i { σ i with sz:=Z,fi:=M }) q0=σ q0:=Sg.bF _ _ hqi;have q5:=hL.nr.c5 zU;have q6:=hL.nr.c6 zU;have q8:=hL.nr.c8 zU;rw[eq2] at q5 q6;obtain⟨s,hse⟩:=nE ((σ q0).sz);obtain⟨m,hme⟩:=nE ((σ q0).fi);rw[hse] at q5 hs0 hs1;rw[hme] at q6 hs2;have hw1:wrap64 (Z+s)=Z+s:=zu _ (oD HZb.out U4.out);obtain⟨W1,hW1⟩:=nE ((wr.setCell ⟨g,i*9+5,none⟩ (.int .i64 (Z+s))).drew);obtain⟨W2,hW2⟩:=nE ((W1.setCell ⟨g,i*9+8,none⟩ (.int .i64 (wrap64 (jf i+jf q0)))).drew)
    have hO1:Off [g] wr W1:=by
     rw[←hW1];exact((Off.refl [g] wr).setCell sj _).drew
    have hL1:bU W1 b g n cap (σ.put i { σ i with sz:=Z+s,fi:=M }) li jf ed:=by
     refine hL.nodes hO1 ?_;rw[←hW1];have h1:gD (wr.setCell ⟨g,i*9+5,none⟩ (.int .i64 (Z+s))).drew g n _ li jf:=hL.nr.s5 i (Z+s);rw[Sg.put_eq,Sg.jJ] at h1;exact h1
    have hO2:Off [g] W1 W2:=by
     rw[←hW2];exact((Off.refl [g] W1).setCell sj _).drew
    have HL2:Hid (bU W2 b g n cap (σ.put i { σ i with sz:=Z+s,fi:=M }) li (lU jf i (wrap64 (jf i+jf q0))) ed):=jh (by
     refine hL1.nodes hO2 ?_;rw[←hW2]
     exact hL1.nr.s8 i (wrap64 (jf i+jf q0)))
    have fu:=jh ((HO.out.trans hO1 (λj hj=>.inl hj)).trans hO2 (λj hj=>.inl hj));have HW1:=jh hW1;have HW2:=jh hW2;have mR:=jh hL1;have HZ1:Hid (yT σ i 1=Z+s):=jh (by rw[←HZ.out,←hse];simp only[yT,FM,HE0.out];simp[h0]);have FJ:Hid (CK σ i 1=if Bf σ m M then m else M):=jh (by rw[←HM.out,←hme];simp only[CK,Ii,HE0.out];simp[h0]);have HX:=jh (And.intro hs2 (And.intro zU hqi));have Hme:=jh hme;clear h0 hs2 hqi hme hse hW2 hO2 hL hW1 hO1 hL1;go_wp2
    go_still_tail 11,(by kernel_rfl)
    go_wp2_with fail;rw[hw1,HW1.out];clear HW1 q5 q6 q8 k5 k6 k8 f5 f6 f8 hw1 c1 HO hs0 hs1;have c1:=mR.out.c1;rw[HN.out] at c1;have q8:=mR.out.nr.c8 zU;have k8:=mR.out.nr.c8 HR.out.le;have f8:=mR.out.nr.fz (i*9+8);clear mR
    go_still_tail 11,(by kernel_rfl)
    go_wp2_with fail;rw[HW2.out];clear HW2 q8 k8 f8 c1;have c1:=HL2.out.c1;rw[HN.out] at c1;have k6:=HL2.out.nr.c6 HR.out.le;rw[Sg.put_eq] at k6;have f6:=HL2.out.nr.fz (i*9+6);have q6:=HL2.out.nr.c6 zU;rw[Sg.bF _ _ HX.out.2.2,Hme.out] at q6
    go_quiet (exact Calls.quiet_of (uW (HL2.out.dn _) HX.out.1 HMb.out))
    have hbf:Bf (σ.put i { σ i with sz:=Z+s,fi:=M }) m M↔Bf σ m M:=Bf.congr (vV σ i { σ i with sz:=Z+s,fi:=M } rfl _) (vV σ i { σ i with sz:=Z+s,fi:=M } rfl _);rw[show decide (Bf (σ.put i { σ i with sz:=Z+s,fi:=M }) m M)=decide (Bf σ m M) from decide_eq_decide.2 hbf];have gL:=jh (HL2.out.dn nq);have bW:=jh (fu.out.drewN nq);obtain⟨W3,hW3⟩:=nG (W2.drewN nq);rw[←hW3] at gL bW⊢;clear HL2 fu hW3 c1 k6 f6 q6 hbf;have f6:=gL.out.nr.fz (i*9+6);have k6:=gL.out.nr.c6 HR.out.le;rw[Sg.put_eq] at k6;have q6:=gL.out.nr.c6 zU;rw[Sg.bF _ _ HX.out.2.2,Hme.out] at q6
    by_cases hb:Bf σ m M
    ·rw[dP hb]
     have Uq:Hid (bU (W3.setCell ⟨g,i*9+6,none⟩ (.int .i64 m)) b g n cap (σ.put i { σ i with sz:=yT σ i 1,fi:=CK σ i 1 }) li (lU jf i (wrap64 (jf i+jf q0))) ed):=jh (by
      rw[HZ1.out,FJ.out,if_pos hb];have h1:=gL.out.nr.s6 i m;rw[Sg.put_eq,Sg.jJ] at h1
      exact gL.out.nodes ((Off.refl [g] W3).setCell sj _) h1)
     clear hb;go_wp2;go_roundw
     case rel=>exact⟨1,om,rfl,jh ⟨_,Uq.out⟩,jh (bW.out.setCell sj _)⟩
     case measure=>simp only[intOf];omega
    ·rw[dF hb]
     have Uq:Hid (bU W3 b g n cap (σ.put i { σ i with sz:=yT σ i 1,fi:=CK σ i 1 }) li (lU jf i (wrap64 (jf i+jf q0))) ed):=jh (by
      rw[HZ1.out,FJ.out,if_neg hb];exact gL.out)
     clear hb;go_wp2;go_roundw
     case rel=>exact⟨1,om,rfl,jh ⟨_,Uq.out⟩,bW⟩
     case measure=>simp only[intOf];omega
  ·obtain⟨Z,hZ⟩:=nE (yT σ i 1);obtain⟨M,hM⟩:=nE (CK σ i 1);rw[hZ,hM] at hL;have HZ:=jh hZ;have HM:=jh hM
   have HZb:Hid (1≤Z∧Z≤1+1*(n:Int)):=jh (by
    rw[←hZ];exact Yy HR.out 1 om)
   have HMb:Hid (M≤n):=jh (by rw[←hM];exact Yz HR.out 1 om);have c1:=hL.c1;rw[HN.out] at c1;have k5:=hL.nr.c5 HR.out.le;have k6:=hL.nr.c6 HR.out.le;have k8:=hL.nr.c8 HR.out.le;rw[Sg.put_eq] at k5 k6;have f5:=hL.nr.fz (i*9+5);have f6:=hL.nr.fz (i*9+6);have f8:=hL.nr.fz (i*9+8);clear hZ hM
   have i0:∀w,(Instr.index 223 (.agg #[.int .i64 q0,.int .i64 q1]) (.int .i64 1)).run Tryz.prog w=.ok (.int .i64 q1) w:=λ_=>by kernel_rfl
   by_cases h0:q1=0
   ·have d0:(((q1:Nat):Int)==0)=true:=by simp[h0]
    have d0':(q1==0)=true:=by simp[h0]
    have Uq:Hid (∃jf,bU wr b g n cap (σ.put i { σ i with sz:=yT σ i 2,fi:=CK σ i 2 }) li jf ed):=jh ⟨jf,by
     have e1:yT σ i 2=Z:=by rw[←HZ.out];simp only[yT,FM,HE1.out];simp[h0]
     have e2:CK σ i 2=M:=by rw[←HM.out];simp only[CK,Ii,HE1.out];simp[h0]
     rw[e1,e2];exact hL⟩
    clear hL k5 k6 k8 f5 f6 f8 c1 h0;go_wp2;go_roundw
    case rel=>exact⟨2,om,rfl,Uq,HO⟩
    case measure=>simp only[intOf];omega
   ·have hq0:q1≠0:=h0
    have hqi:q1≠i:=by have:=HR.out.n1;rw[HE1.out] at this;exact this
    have zU:q1≤n:=by have:=HR.out.l1;rw[HE1.out] at this;exact this
    have hs:=HR.out.s1;rw[HE1.out] at hs;obtain⟨hs0,hs1,hs2⟩:=hs hq0
    have d0:(((q1:Nat):Int)==0)=false:=by simp;omega
    have bq:(0:Int)≤q1∧(q1:Int)<N:=oC HN.out;have eq2:(σ.put i { σ i with sz:=Z,fi:=M }) q1=σ q1:=Sg.bF _ _ hqi;have q5:=hL.nr.c5 zU;have q6:=hL.nr.c6 zU;have q8:=hL.nr.c8 zU;rw[eq2] at q5 q6;obtain⟨s,hse⟩:=nE ((σ q1).sz);obtain⟨m,hme⟩:=nE ((σ q1).fi);rw[hse] at q5 hs0 hs1;rw[hme] at q6 hs2;have hw1:wrap64 (Z+s)=Z+s:=zu _ (oD HZb.out U4.out);obtain⟨W1,hW1⟩:=nE ((wr.setCell ⟨g,i*9+5,none⟩ (.int .i64 (Z+s))).drew);obtain⟨W2,hW2⟩:=nE ((W1.setCell ⟨g,i*9+8,none⟩ (.int .i64 (wrap64 (jf i+jf q1)))).drew)
    have hO1:Off [g] wr W1:=by
     rw[←hW1];exact((Off.refl [g] wr).setCell sj _).drew
    have hL1:bU W1 b g n cap (σ.put i { σ i with sz:=Z+s,fi:=M }) li jf ed:=by
     refine hL.nodes hO1 ?_;rw[←hW1];have h1:gD (wr.setCell ⟨g,i*9+5,none⟩ (.int .i64 (Z+s))).drew g n _ li jf:=hL.nr.s5 i (Z+s);rw[Sg.put_eq,Sg.jJ] at h1;exact h1
    have hO2:Off [g] W1 W2:=by
     rw[←hW2];exact((Off.refl [g] W1).setCell sj _).drew
    have HL2:Hid (bU W2 b g n cap (σ.put i { σ i with sz:=Z+s,fi:=M }) li (lU jf i (wrap64 (jf i+jf q1))) ed):=jh (by
     refine hL1.nodes hO2 ?_;rw[←hW2]
     exact hL1.nr.s8 i (wrap64 (jf i+jf q1)))
    have fu:=jh ((HO.out.trans hO1 (λj hj=>.inl hj)).trans hO2 (λj hj=>.inl hj));have HW1:=jh hW1;have HW2:=jh hW2;have mR:=jh hL1;have HZ1:Hid (yT σ i 2=Z+s):=jh (by rw[←HZ.out,←hse];simp only[yT,FM,HE1.out];simp[h0]);have FJ:Hid (CK σ i 2=if Bf σ m M then m else M):=jh (by rw[←HM.out,←hme];simp only[CK,Ii,HE1.out];simp[h0]);have HX:=jh (And.intro hs2 (And.intro zU hqi));have Hme:=jh hme;clear h0 hs2 hqi hme hse hW2 hO2 hL hW1 hO1 hL1;go_wp2
    go_still_tail 11,(by kernel_rfl)
    go_wp2_with fail;rw[hw1,HW1.out];clear HW1 q5 q6 q8 k5 k6 k8 f5 f6 f8 hw1 c1 HO hs0 hs1;have c1:=mR.out.c1;rw[HN.out] at c1;have q8:=mR.out.nr.c8 zU;have k8:=mR.out.nr.c8 HR.out.le;have f8:=mR.out.nr.fz (i*9+8);clear mR
    go_still_tail 11,(by kernel_rfl)
    go_wp2_with fail;rw[HW2.out];clear HW2 q8 k8 f8 c1;have c1:=HL2.out.c1;rw[HN.out] at c1;have k6:=HL2.out.nr.c6 HR.out.le;rw[Sg.put_eq] at k6;have f6:=HL2.out.nr.fz (i*9+6);have q6:=HL2.out.nr.c6 zU;rw[Sg.bF _ _ HX.out.2.2,Hme.out] at q6
    go_quiet (exact Calls.quiet_of (uW (HL2.out.dn _) HX.out.1 HMb.out))
    have hbf:Bf (σ.put i { σ i with sz:=Z+s,fi:=M }) m M↔Bf σ m M:=Bf.congr (vV σ i { σ i with sz:=Z+s,fi:=M } rfl _) (vV σ i { σ i with sz:=Z+s,fi:=M } rfl _);rw[show decide (Bf (σ.put i { σ i with sz:=Z+s,fi:=M }) m M)=decide (Bf σ m M) from decide_eq_decide.2 hbf];have gL:=jh (HL2.out.dn nq);have bW:=jh (fu.out.drewN nq);obtain⟨W3,hW3⟩:=nG (W2.drewN nq);rw[←hW3] at gL bW⊢;clear HL2 fu hW3 c1 k6 f6 q6 hbf;have f6:=gL.out.nr.fz (i*9+6);have k6:=gL.out.nr.c6 HR.out.le;rw[Sg.put_eq] at k6;have q6:=gL.out.nr.c6 zU;rw[Sg.bF _ _ HX.out.2.2,Hme.out] at q6
    by_cases hb:Bf σ m M
    ·rw[dP hb]
     have Uq:Hid (bU (W3.setCell ⟨g,i*9+6,none⟩ (.int .i64 m)) b g n cap (σ.put i { σ i with sz:=yT σ i 2,fi:=CK σ i 2 }) li (lU jf i (wrap64 (jf i+jf q1))) ed):=jh (by
      rw[HZ1.out,FJ.out,if_pos hb];have h1:=gL.out.nr.s6 i m;rw[Sg.put_eq,Sg.jJ] at h1
      exact gL.out.nodes ((Off.refl [g] W3).setCell sj _) h1)
     clear hb;go_wp2;go_roundw
     case rel=>exact⟨2,om,rfl,jh ⟨_,Uq.out⟩,jh (bW.out.setCell sj _)⟩
     case measure=>simp only[intOf];omega
    ·rw[dF hb]
     have Uq:Hid (bU W3 b g n cap (σ.put i { σ i with sz:=yT σ i 2,fi:=CK σ i 2 }) li (lU jf i (wrap64 (jf i+jf q1))) ed):=jh (by
      rw[HZ1.out,FJ.out,if_neg hb];exact gL.out)
     clear hb;go_wp2;go_roundw
     case rel=>exact⟨2,om,rfl,jh ⟨_,Uq.out⟩,bW⟩
     case measure=>simp only[intOf];omega
  ·have HF:Hid (bU wr b g n cap (dH σ i) li jf ed):=jh hL;clear hL;go_wp2;go_end0;exact⟨rfl,⟨_,HF.out⟩,HO.out⟩
end
end Go.Proofs.YtpaeogglppampaaGreat
