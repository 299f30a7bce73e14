/- Lemmas of the proof. Conditions: as each one states. -/
import Derived.Test.YtpaeogglppampaaGreatDoorQq
import Derived.Test.YtpaeogglppampaaGreatDoorQI
import Derived.Test.YtpaeogglppampaaGreatDoorQJ
import Derived.Maps.RangeWalk
set_option maxRecDepth 100000
set_option maxHeartbeats 16000000
namespace Go.Proofs.YtpaeogglppampaaGreatDoor
open Go.RowKit
section
variable {w:World} {f:iL} {S N:Nat} {ids:List Int} {U:List Nat}
theorem Ol (l:List Int):∀u∈jL l,u.oneCell'=true:=λu hu=>by
 unfold jL at hu;obtain⟨x,_,rfl⟩:=List.mem_map.1 hu
 rfl
def Hr (cl:Nat→Nat) (N:Nat):List Value:=(List.range N).map λc=>Value.int .i64 (cl c:Nat)
theorem Wy {cl:Nat→Nat} {N:Nat} {j:Nat} {u:Value} (h:(Hr cl N)[j]?=some u):j<N∧u=.int .i64 (cl j:Nat):=by
 unfold Hr at h;rw[List.getElem?_map] at h;obtain⟨x,hx,rfl⟩:=Option.map_eq_some_iff.1 h;obtain⟨h1,h2⟩:=List.getElem?_eq_some_iff.1 hx;rw[List.length_range] at h1;rw[List.getElem_range] at h2;subst h2;exact⟨h1,rfl⟩
theorem SC (cl:Nat→Nat) (N:Nat):∀u∈Hr cl N,u.oneCell'=true:=λu hu=>by
 unfold Hr at hu;obtain⟨x,_,rfl⟩:=List.mem_map.1 hu
 rfl
theorem KC (h:Ap w f S N (bM N) ids U) (hS:S≤65536) (hN:Pw N):
  Calls Tryz.prog 85 #[.pointer (some ⟨f.h,0,none⟩)] w λe w'=>∃f',e=.returned (.pointer (some ⟨f'.h,0,none⟩))∧Ap w' f' S N (bM N) ids U∧Bo [] f'.bl w w':=by
 obtain⟨iv,cl,m,ok⟩:=h
 have hNb:N≤1000000:=by
  obtain⟨p,hp,rfl⟩:=hN;have:=Nat.pow_le_pow_right (n:=2) (by decide) hp;omega
 have hib:ids.length≤65536:=Nat.le_trans ok.le hS;have HV:=jh (iN m);have vF:w.drew.cell? ⟨f.h,1,none⟩=some (.pointer (some ⟨f.ar.h,0,none⟩))∧w.drew.cell? ⟨f.h,2,none⟩=some iv∧w.drew.cell? ⟨f.h,3,none⟩=some (.slice (some ⟨f.cb,0,none⟩) N f.cp):=⟨m.c1,m.c2,m.c3⟩;have HS:=vF;have M:=jh m;have OK:=jh ok;have HB:=jh (And.intro hNb (And.intro hib hS));have HA:=jh (Ao (m.ar.keep (w':=w.drew) λ_ _=>rfl) hS);clear m ok hNb hib vF;go_in;go_wp2_with fail;apply mO HV;rintro e w1 ⟨rfl,rfl⟩;go_wp2;refine aj (λw'=>w'.cell? ⟨f.h,1,none⟩=some (.pointer (some ⟨f.ar.h,0,none⟩))∧w'.cell? ⟨f.h,2,none⟩=some iv∧w'.cell? ⟨f.h,3,none⟩=some (.slice (some ⟨f.cb,0,none⟩) N f.cp)) (by kernel_rfl) ?_;refine tC 0 ?_;refine tC 1 ?_;refine tC 2 ?_;refine tC 3 ?_;refine tC 5 ?_;refine tC 6 ?_;refine tC 7 ?_;refine tC 8 ?_;refine tC 10 ?_;refine tC 11 ?_;refine tC 12 ?_;refine tC 13 ?_
 try simp only[sD]
 refine rC 4 λK hK=>?_;go_simp;apply mO HA;rintro e W1 ⟨oq,rfl,a1,b1⟩;dsimp only
 have o1:Off [] w1 W1:=(Off.refl _ _).drew.trans b1.off λj hj=>by cases hj
 have m1:=M.out.keep (w':=W1) λj hj=>o1.block j (M.out.lt j hj) sj;refine hK.out _ _ ⟨m1.c1,m1.c2,m1.c3⟩ (λHS=>?_);have NU:=jh (BM m1.ow (oC HB.out) (Ol ids));have A1:=jh a1;have B1:=jh (show Bo [] oq.bl w1 W1 from⟨o1,b1.fQ⟩);clear hK HA a1 b1 o1 m1;refine rC 9 λK hK=>?_;go_simp;apply mO NU;rintro e W2 ⟨v2,rfl,w2,o2⟩;obtain⟨a2,p2,rfl⟩:=uq w2;dsimp only
 have vW:Off [] w1 W2:=B1.out.off.trans o2 λj hj=>by cases hj
 have m2:=M.out.keep (w':=W2) λj hj=>vW.block j (M.out.lt j hj) sj;refine hK.out _ _ ⟨m2.c1,m2.c2,m2.c3⟩ (λHS=>?_)
 have HC3:=jh (xV f.cb N f.cp (Hr cl N) W2 (by simp[Hr]) HB.out.1 (λj u hj=>by
  obtain⟨h1,rfl⟩:=Wy hj
  exact m2.cc h1) (SC cl N))
 have A2:=jh (A1.out.keep (w':=W2) λj hj=>o2.block j (A1.out.lt j hj) sj);have R2:=jh w2;have O2:=jh o2;have L1:=jh A1.out.lt;clear hK NU w2 o2 vW m2 A1;refine rC 14 λK hK=>?_;go_simp;apply mO HC3;rintro e W3 ⟨v3,rfl,w3,hne,o3⟩;dsimp only
 have o13:Off [] w1 W3:=(B1.out.off.trans O2.out λj hj=>by cases hj).trans o3 λj hj=>by cases hj
 have m3:=M.out.keep (w':=W3) λj hj=>o13.block j (M.out.lt j hj) sj;refine hK.out _ _ ⟨m3.c1,m3.c2,m3.c3⟩ (λHS=>?_)
 obtain⟨g3,Nc,rfl,hg3⟩:∃g3 Nc,v3=.slice (some ⟨g3,0,none⟩) N Nc∧W2.heap.size≤g3:=by
  rcases w3.2 with⟨e,_⟩ |⟨g,cap,cur,e,hb,_⟩
  ·exact absurd e hne
  ·exact⟨g,cap,e,hb⟩
 have A3:=jh (A2.out.keep (w':=W3) λj hj=>o3.block j (A2.out.lt j hj) sj);have R23:=jh (aG R2.out λg hg=>o3.block g (aN R2.out hg) sj);have R3:=jh w3;have O13:=jh o13;have O3:=jh o3;have HG3:=jh hg3;clear hK HC3 w3 hne o3 o13 m3 hg3 A2;refine tC 15 ?_
 try simp only[sD]
 refine rC 16 λK hK=>?_;go_simp;have o4:Off [] w1 (W3.alloc (.cells #[.pointer none,.pointer (some ⟨oq.h,0,none⟩),.slice a2 ids.length p2,.slice (some ⟨g3,0,none⟩) N Nc] 197)):=O13.out.alloc _;have m4:=M.out.keep λj hj=>o4.block j (M.out.lt j hj) sj;refine hK.out _ _ ⟨m4.c1,m4.c2,m4.c3⟩ (λHS=>?_);clear hK o4 m4;refine tC 17 ?_
 try simp only[sD]
 refine dD ⟨rfl,?_⟩;clear HS;go_wp2;go_ret;generalize hG:W3.alloc (.cells #[.pointer (some ⟨W3.heap.size,0,none⟩),.pointer (some ⟨oq.h,0,none⟩),.slice a2 ids.length p2,.slice (some ⟨g3,0,none⟩) N Nc] 197)=W
 have hr:Row W W3.heap.size 4 (tbH W3.heap.size oq.h (.slice a2 ids.length p2) g3 N Nc):=by
  rw[←hG];exact Row.lit _ _ _ (Nat.le_refl _) lC
 have oG:Off [] W3 W:=by rw[←hG];exact(Off.refl _ _).alloc _
 have z2:=O2.out.size;have z3:=O3.out.size;have z1:=B1.out.off.size;have har:∀j∈oq.bl,w1.heap.size≤j∧j<W1.heap.size:=λj hj=>⟨(B1.out.fQ j hj).elim (λe=>by cases e) id,L1.out j hj⟩;have hi2:∀g,(Value.slice a2 ids.length p2).ownBlock=some g→W1.heap.size≤g∧g<W2.heap.size:=λg hg=>⟨fP R2.out hg,aN R2.out hg⟩;have h3l:g3<W3.heap.size:=aN R3.out rfl;have hg3:=HG3.out
 have cr:Row W g3 N (λc=>.int .i64 (cl c:Nat)):=((Row.owned R3.out).congr λi hi=>by
  unfold Hr;simp[List.getD,hi]).of_block (oG.block g3 h3l sj)
 refine⟨⟨W3.heap.size,oq,(Value.slice a2 ids.length p2).ownBlock,g3,Nc⟩,rfl,⟨.slice a2 ids.length p2,cl,⟨hr,A3.out.keep λj hj=>oG.block j (oC (har j hj)) sj,jo (aG R23.out λg hg=>oG.block g (oC (hi2 g hg)) sj) (Nat.zero_le _),rfl,cr,by show W3.heap.size≠g3;omega,⟨λc=>by have h:=hi2 _ c;dsimp only at h;omega,λc=>by have h:=hi2 _ c;dsimp only at h;omega⟩,⟨λc=>by have h:=har _ c;dsimp only at h;omega,λc=>by have h:=har _ c;dsimp only at h;omega,λg hg c=>by have h:=har _ c;have:=hi2 _ hg;omega⟩⟩,OK.out⟩,⟨O13.out.trans oG (λj hj=>by cases hj),λj hj=>.inr ?_⟩⟩
 rcases iL.ak.1 hj with e |e |e |e
 ·have e':j=W3.heap.size:=e;omega
 ·have e':j=g3:=e;omega
 ·have:=hi2 j e;omega
 ·have:=har j e;omega
end
section
open Go.Maps Go.Shelf
theorem Off.bZ {S:List Nat} {a b:World} (h:Off S a b) {p:Addr} (hp:a.heap.size≤p.block) (v:Value):Off S a (b.setCell p v):=
 ((h.mono (S':=p.block::S) λj hj=>.inl (List.mem_cons_of_mem _ hj)).setCell (List.mem_cons_self ..) v).mono λj hj=>(List.mem_cons.1 hj).elim (λe=>.inr (by rw[e];exact hp)) .inl
theorem Mq {c:Nat→Nat→Value} {n m:Nat} (h:∀x<n,∀j<m,(c x j).oneCell'=true):∀u∈flat c n m,u.oneCell'=true:=λu hu=>by
 obtain⟨q,hq,rfl⟩:=List.mem_iff_getElem.1 hu;rw[fD] at hq;obtain⟨x,y,hx,hy,rfl⟩:=ko hq;have:=iy (f:=c) hx hy;rw[List.getElem?_eq_getElem (by rw[fD];exact hq)] at this;rw[Option.some.inj this];exact h x hx y hy
theorem LW (l:List Nat):∀u∈(bH l).map (Value.int .i64),u.oneCell'=true:=λu hu=>by
 obtain⟨x,_,rfl⟩:=List.mem_map.1 hu
 rfl
theorem Tryz.OY:(Tryz.prog.info? 136).map (·.size)=some 7:=by kernel_rfl
section
variable {w w' wr:World} {F:bD} {E V N bg:Nat} {s:St} {inc:Int→List Nat}
theorem Ut (F:bD) (E V:Nat) (la:Int) (a:Option Addr) (n p:Nat) (i:Nat) (hi:i<7):(Xd F E V la (.slice a n p) i).oneCell'=true:=by
 match i,hi with
 |0,_ |1,_ |2,_ |3,_ |4,_ |5,_ |6,_=>rfl
 |k+7,e=>exact absurd e om
structure CpI (F:bD) (inc:Int→List Nat) (M:Int→Option Value) (n:Nat) (D:DataW Value) (r mZ lo:Nat) (left:Lit→Bool) (cnt:Nat) (Fq:Int→Nat) (cp2:Int→Nat) (M2:Int→Option Value) (wr:World):Prop where
 rg:wr.ranges Tryz.prog 25 kJ F.mb r n D left cnt
 mp:eO wr 25 .u64 mZ M2
 at_:∀x,M2 x=if x∈F.ks then(if left (.int .u64 x)=true then M x else some (.slice (some ⟨Fq x,0,none⟩) (inc x).length (cp2 x))) else none
 ow:∀x∈F.ks,left (.int .u64 x)=false→wr.ownsRow lo 3 1 (.slice (some ⟨Fq x,0,none⟩) (inc x).length (cp2 x)) (inc x).length ((bH (inc x)).map (Value.int .i64))
 inj:∀x∈F.ks,∀y∈F.ks,left (.int .u64 x)=false→left (.int .u64 y)=false→Fq x=Fq y→x=y
theorem CpI.step {M:Int→Option Value} {n:Nat} {D:DataW Value} {r mZ lo:Nat} {left:Lit→Bool} {cnt cnt':Nat} {Fq cp2:Int→Nat} {M2:Int→Option Value} {wn w2 w3:World} {x:Int} {g cap:Nat} (h:CpI F inc M n D r mZ lo left cnt Fq cp2 M2 wr)
  (hr:wn.ranges Tryz.prog 25 kJ F.mb r n D (λz=>left z&&!z.sameKey (.int .u64 x)) cnt') (hg:wr.grownBy wn (some r)) (hx:x∈F.ks)
  (how:w2.ownsRow wn.heap.size 3 1 (.slice (some ⟨g,0,none⟩) (inc x).length cap) (inc x).length ((bH (inc x)).map (Value.int .i64))) (o:Off [] wn w2) (mp:eO w3 25 .u64 mZ (fG M2 x (some (.slice (some ⟨g,0,none⟩) (inc x).length cap)))) (bm:Bo [mZ] [mZ] w2 w3)
  (hlo:lo≤wr.heap.size) (hrl:r<lo) (hml:mZ<lo) (_:F.mb<lo) (hne:F.mb≠mZ∧r≠mZ):
  CpI F inc M n D r mZ lo (λz=>left z&&!z.sameKey (.int .u64 x)) cnt' (λy=>if y=x then g else Fq y) (λy=>if y=x then cap else cp2 y) (fG M2 x (some (.slice (some ⟨g,0,none⟩) (inc x).length cap))) w3:=by
 have sk:∀y,(Lit.int .u64 y).sameKey (.int .u64 x)=decide (y=x):=λy=>by
  by_cases c:y=x
  ·subst c;rw[dP rfl];exact WideAt.sameKey_self trivial
  ·rw[dF c]
   cases e:(Lit.int .u64 y).sameKey (.int .u64 x) with
   |false=>rfl
   |true=>have:=WideAt.sameKey_eq e;exact absurd (Lit.int.inj this).2 c
 have hgl:wn.heap.size≤g:=fP how rfl;have hgu:g<w2.heap.size:=aN how rfl;have z1:=hg.size;have z2:=o.size;have old:∀y∈F.ks,left (.int .u64 y)=false→lo≤Fq y∧Fq y<wr.heap.size:=λy hy hl=>⟨fP (h.ow y hy hl) rfl,aN (h.ow y hy hl) rfl⟩
 have kp:∀j<wr.heap.size,j≠r→j≠mZ→w3.heap[j]?=wr.heap[j]?:=λj hj h1 h2=>
  (bm.off.block j om (by simpa using h2)).trans ((o.block j om sj).trans (hg.block j hj λe=>h1 (Option.some.inj e)))
 refine⟨?_,mp,λy=>?_,λy hy hl=>?_,λy hy z hz h1 h2 e=>?_⟩
 ·have h1:w2.ranges Tryz.prog 25 kJ F.mb r n D (λz=>left z&&!z.sameKey (.int .u64 x)) cnt':=hr.kept (row:=none) ⟨o.os,o.tape,o.output,o.size,λj hj _=>o.block j hj sj⟩ sj sj;exact h1.kept (row:=some mZ) ⟨bm.off.os,bm.off.tape,bm.off.output,bm.off.size,λj hj hn=>bm.off.block j hj (by simpa using λe=>hn (by rw[e]))⟩ (λe=>hne.1 (Option.some.inj e)) (λe=>hne.2 (Option.some.inj e))
 ·unfold fG
  by_cases c:y=x
  ·subst c;rw[if_pos rfl,if_pos hx,sk,dP rfl];simp
  ·rw[if_neg c,h.at_ y,sk,dF c];simp[c]
 ·rw[sk] at hl
  by_cases c:y=x
  ·subst c;simp only[if_true];refine jo (aG how λq hq=>bm.off.block q (aN how hq) ?_) om
   have:g=q:=by simpa [Value.ownBlock] using hq
   simp;omega
  ·rw[dF c] at hl
   have hl':left (.int .u64 y)=false:=by simpa using hl
   simp only[if_neg c];have:=old y hy hl'
   exact aG (h.ow y hy hl') λq hq=>by
    have e:Fq y=q:=by simpa [Value.ownBlock] using hq
    exact kp q om om om
 ·rw[sk] at h1 h2
  by_cases c:y=x
  ·by_cases d:z=x
   ·rw[c,d]
   ·rw[dF d] at h2;have:=old z hz (by simpa using h2);simp only[if_pos c,if_neg d] at e;omega
  ·rw[dF c] at h1;have h1':=old y hy (by simpa using h1)
   by_cases d:z=x
   ·simp only[if_neg c,if_pos d] at e;omega
   ·rw[dF d] at h2;simp only[if_neg c,if_neg d] at e;exact h.inj y hy z hz (by simpa using h1) (by simpa using h2) e
theorem K6 (h:lq w F E V N bg s inc):
  Calls Tryz.prog 44 #[.pointer (some ⟨F.b,0,none⟩)] w λe w'=>∃F',e=.returned (.pointer (some ⟨F'.b,0,none⟩))∧lq w' F' E V N bg s inc∧Bo [] F'.bl w w':=by
 obtain⟨la,lv,c,cp,M,k,Cq,El⟩:=h.parts;obtain⟨al,pl,rfl⟩:=uq k.ow;obtain⟨B,hB⟩:=nE w.heap.size;obtain⟨W1,hW1⟩:∃W,w.alloc (.cells (fO 7 (Xd F E V la (.slice al bg pl))) 136)=W:=⟨_,rfl⟩
 have o1:Off [] w W1:=by rw[←hW1];exact(Off.refl _ _).alloc _
 have r1:Row W1 B 7 (Xd F E V la (.slice al bg pl)):=by
  rw[←hW1,←hB];exact Row.lit (n:=7) w (fO 7 (Xd F E V la (.slice al bg pl))) _ (Nat.le_of_eq (dK _ _).symm) (λq hq=>by simp[fO])
 have k1:=k.off o1;have c3:=k1.c3;have HV:=jh (iP h);have HA:=jh (Ao k1.ar (oC h.lim));have HR:=jh k.hr;have H:=jh h;have K:=jh k;have HB:=jh (And.intro Cq El);have HBB:=jh hB;have O1:=jh o1;have R1:=jh r1;have K1:=jh k1;have HW1:=jh hW1;rw[←hW1] at c3;clear h k Cq El hB o1 r1 k1 hW1;go_in;go_wp2_with fail;apply mO HV;rintro e w1 ⟨rfl,rfl⟩
 go_wp2_with (first |(refine gV HR.out rfl _ _ rfl rfl _ Tryz.underlying136 rfl Tryz.OY ?_) |(refine wpList_store_row rfl _ _ _ rfl w1.heap.size (fO 7 (Xd F E V la (.slice al bg pl))) rfl rfl _ _ (heap_alloc_new _ _) (by rw[dK];exact Tryz.OY) (by rw[dK];rfl) (rH (Ut F E V la al bg pl)) ?_;rw[jB]))
 rw[HW1.out,HBB.out];apply mO HA;rintro e W2 ⟨ar2,rfl,a2,b2⟩;clear HV HA c3 HR HW1
 have o2:Off [] w1 W2:=O1.out.trans b2.off λj hj=>by cases hj
 have hBw:w1.heap.size≤B:=oC HBB.out;have q3:=(R1.out.of_block (b2.off.block B R1.out.lt sj)).c 3;have f3:=(R1.out.of_block (b2.off.block B R1.out.lt sj)).frozen 3;have r2:=(R1.out.of_block (b2.off.block B R1.out.lt sj)).set 3 (.pointer (some ⟨ar2.h,0,none⟩));obtain⟨X2,hX2⟩:=nE (W2.setCell ⟨B,3,none⟩ (.pointer (some ⟨ar2.h,0,none⟩)))
 have p2:Off [] w1 X2:=by rw[←hX2];exact o2.bZ hBw _
 have k2:=K.out.off p2;have c4:=k2.c4;have HT:=jh (KC k2.tb (oC H.out.lim) H.out.pw);rw[hX2] at r2;rw[←hX2] at c4;have har:∀j∈ar2.bl,W1.heap.size≤j∧j<W2.heap.size:=λj hj=>⟨(b2.fQ j hj).elim (λe=>by cases e) id,a2.lt j hj⟩;have WX:=jh har;have A2:=jh (a2.keep (w':=X2) λj hj=>by rw[←hX2];exact aC j (by have:=har j hj;have:=R1.out.lt;show j≠B;omega));have HZ2:=jh (show X2.heap.size=W2.heap.size by rw[←hX2];simp[World.setCell]);have P2:=jh p2;have R2:=jh r2;have Ue:=jh hX2;have HBw:=jh hBw;clear o2 r2 p2 k2 har a2 b2 hX2 K1 O1 hBw;go_wp2_with fail;rw[Ue.out];apply mO HT;rintro e W3 ⟨tb3,rfl,t3,b3⟩;clear HT c4 Ue q3 f3;have q4:=(R2.out.of_block (b3.off.block B R2.out.lt sj)).c 4;have f4:=(R2.out.of_block (b3.off.block B R2.out.lt sj)).frozen 4;have r3:=(R2.out.of_block (b3.off.block B R2.out.lt sj)).set 4 (.pointer (some ⟨tb3.h,0,none⟩));obtain⟨X3,Cu⟩:=nE (W3.setCell ⟨B,4,none⟩ (.pointer (some ⟨tb3.h,0,none⟩)))
 have p3:Off [] w1 X3:=by rw[←Cu];exact(P2.out.trans b3.off λj hj=>by cases hj).bZ HBw.out _
 have k3:=K.out.off p3;have c5:=k3.c5;have HC:=jh (yY k3.ow (oD HB.out.1 H.out.lim) (Mq k3.one));rw[Cu] at r3;rw[←Cu] at c5;have htb:∀j∈tb3.bl,X2.heap.size≤j∧j<W3.heap.size:=λj hj=>⟨(b3.fQ j hj).elim (λe=>by cases e) id,t3.lt j hj⟩;have CJ:=jh htb;have T3:=jh (t3.keep (w':=X3) λj hj=>by rw[←Cu];exact aC j (by have:=htb j hj;have:=R2.out.lt;show j≠B;omega))
 have A3:=jh (A2.out.keep (w':=X3) λj hj=>by
  rw[←Cu];have:=WX.out j hj;have:=R1.out.lt;have:=HZ2.out
  exact(aC j (by show j≠B;omega)).trans (b3.off.block j om sj))
 have HZ3:=jh (show X3.heap.size=W3.heap.size by rw[←Cu];simp[World.setCell]);have HY3:=jh b3.off.size;have P3:=jh p3;have R3:=jh r3;have HX3:=jh Cu;clear r3 p3 k3 htb t3 b3 Cu A2 P2;go_wp2_with fail;rw[HX3.out];apply mO HC;rintro e W4 ⟨v4,rfl,w4,o4⟩;obtain⟨a4,p4,rfl⟩:=uq w4;clear HC c5 HX3 q4 f4;have q5:=(R3.out.of_block (o4.block B R3.out.lt sj)).c 5;have f5:=(R3.out.of_block (o4.block B R3.out.lt sj)).frozen 5;have r4:=(R3.out.of_block (o4.block B R3.out.lt sj)).set 5 (.slice a4 bg p4);obtain⟨X4,BG⟩:=nE (W4.setCell ⟨B,5,none⟩ (.slice a4 bg p4))
 have p5:Off [] w1 X4:=by rw[←BG];exact(P3.out.trans o4 λj hj=>by cases hj).bZ HBw.out _
 have k4:=K.out.off p5;have c6:=k4.c6;obtain⟨n4,D4,Xw,hD4⟩:=k4.ic.mp.ex;have HM:=jh (AnyW.maps_Clone_owns Tryz.mapCloneA 25 kJ F.mb n4 D4 X4 Xw);have HD4:=jh hD4;rw[BG] at r4;rw[←BG] at c6;have hlv:∀g,(Value.slice a4 bg p4).ownBlock=some g→X3.heap.size≤g∧g<W4.heap.size:=λg hg=>⟨fP w4 hg,aN w4 hg⟩;have hBX:B<X3.heap.size:=R3.out.lt;have Uj:=jh hlv;have L4:=jh (aG w4 (w':=X4) λg hg=>by rw[←BG];exact aC g (by have:=hlv g hg;show g≠B;omega))
 have T4:=jh (T3.out.keep (w':=X4) λj hj=>by
  rw[←BG];have:=CJ.out j hj;have:=R2.out.lt;have:=HZ3.out
  exact(aC j (by show j≠B;omega)).trans (o4.block j om sj))
 have A4:=jh (A3.out.keep (w':=X4) λj hj=>by
  rw[←BG];have:=WX.out j hj;have:=R1.out.lt;have:=HZ2.out;have:=HZ3.out;have:=HY3.out
  exact(aC j (by show j≠B;omega)).trans (o4.block j om sj))
 have J6:=jh (show X4.heap.size=W4.heap.size by rw[←BG];simp[World.setCell]);have HY4:=jh o4.size;have P4:=jh p5;have R4:=jh r4;have HX4:=jh BG;clear r4 p5 k4 hlv w4 o4 BG A3 T3 P3 Xw hD4 hBX;go_wp2_with fail;rw[HX4.out];apply mO HM;rintro e W5 ⟨rfl,hown5,-,hb5⟩;clear HM c6 HX4 q5 f5;obtain⟨mZ,Zg⟩:=nE X4.heap.size;have o5:Off [] X4 W5:=Off.of_below hb5;rw[Zg] at hown5⊢;have q6:=(R4.out.of_block (o5.block B R4.out.lt sj)).c 6;have f6:=(R4.out.of_block (o5.block B R4.out.lt sj)).frozen 6;have r5:=(R4.out.of_block (o5.block B R4.out.lt sj)).set 6 (.map (some mZ));obtain⟨X5,Cr⟩:=nE (W5.setCell ⟨B,6,none⟩ (.map (some mZ)))
 have p6:Off [] w1 X5:=by rw[←Cr];exact(P4.out.trans o5 λj hj=>by cases hj).bZ HBw.out _
 have k5:=K.out.off p6;have c6:=k5.c6;have ac3:mZ<W5.heap.size:=hown5.lt;have hBm:B<mZ:=oC R4.out.lt;have MV5:eO W5 25 .u64 mZ M:=⟨⟨n4,D4,hown5,HD4.out⟩,k5.ic.mp.wf⟩;have MV:=MV5.keep (w':=X5) (by rw[←Cr];exact aC mZ (by show mZ≠B;omega));obtain⟨n,D,hown,hD⟩:=k5.ic.mp.ex;rw[Cr] at r5
 have kX:∀j,j≠B→j<X4.heap.size→X5.heap[j]?=X4.heap[j]?:=λj hj hl=>by rw[←Cr];exact(aC j hj).trans (o5.block j hl sj)
 have L5:=jh (aG L4.out (w':=X5) λg hg=>kX g (oD (Uj.out g hg) R3.out.lt) (oD (Uj.out g hg) J6.out))
 have T5:=jh (T4.out.keep (w':=X5) λj hj=>by
  have:=CJ.out j hj;have:=R2.out.lt;have:=HZ3.out;have:=J6.out;have:=HY4.out
  exact kX j om om)
 have A5:=jh (A4.out.keep (w':=X5) λj hj=>by
  have:=WX.out j hj;have:=R1.out.lt;have:=HZ2.out;have:=HZ3.out;have:=HY3.out;have:=J6.out;have:=HY4.out
  exact kX j om om)
 have XO:=jh (show X5.heap.size=W5.heap.size by rw[←Cr];simp[World.setCell]);have XZ:=jh (And.intro Zg (And.intro ac3 hBm));have P5:=jh p6;have R5:=jh r5;have XP:=jh Cr;have MV':=jh MV;have HFM:=jh (show F.mb<w1.heap.size from K.out.tT 4 _ (by simp[bD.aP]));rw[←Cr] at c6 hown;clear r5 p6 k5 o5 hb5 Cr A4 T4 L4 P4 Zg ac3 hBm MV5 MV kX hown5
 go_wp2_with (at_range;refine wpList_range_own _ rfl _ 134 rfl 25 62 (int_keyed Tryz.underlying25) Tryz.underlying134 kJ F.mb n D rfl hown ?_;intro w0 hrg0 hg0 hs0;refine Hid.out ?_)
 rw[XP.out] at hrg0 hg0 hs0;obtain⟨r,hr⟩:=nE X5.heap.size
 have hrr:W5.heap.size=r:=by rw[←XO.out];exact hr
 have o0:Off [] X5 w0:=⟨hg0.os,hg0.tape,hg0.output,hg0.size,λj hj _=>hg0.block j hj sj⟩;rw[hr] at hrg0 hs0
 have HC0:Hid (CpI F inc M n D r mZ w0.heap.size (Maps.has D) (Maps.size D) (λ_=>0) (λ_=>0) M w0):=jh (by
  have hT:∀x∈F.ks,Maps.has D (.int .u64 x)=true:=λx hx=>by
   have e:M x=some (.slice (some ⟨F.ib x,0,none⟩) (inc x).length (cp x)):=by rw[K.out.ic.at_ x,if_pos hx]
   rw[(hD x (K.out.ic.mp.wf x _ e)).1,e];rfl
  refine⟨hrg0,MV'.out.keep (o0.block mZ (oD XZ.out XO.out) sj),λx=>?_,λx hx hl=>?_,λx hx y _ hl=>?_⟩
  ·by_cases c:x∈F.ks
   ·rw[if_pos c,if_pos (hT x c)]
   ·rw[if_neg c,K.out.ic.at_ x,if_neg c]
  ·rw[hT x hx] at hl;cases hl
  ·rw[hT x hx] at hl;cases hl)
 have kX:∀j<X5.heap.size,w0.heap[j]?=X5.heap[j]?:=λj hl=>o0.block j hl sj;have L0:=jh (aG L5.out (w':=w0) λg hg=>kX g (oH (Uj.out g hg) J6.out XZ.out XO.out));have T0:=jh (T5.out.keep (w':=w0) λj hj=>kX j (by have:=CJ.out j hj;have:=HZ3.out;have:=J6.out;have:=HY4.out;have:=XZ.out;have:=XO.out;omega));have A0:=jh (A5.out.keep (w':=w0) λj hj=>kX j (by have:=WX.out j hj;have:=HZ2.out;have:=HZ3.out;have:=HY3.out;have:=J6.out;have:=HY4.out;have:=XZ.out;have:=XO.out;omega));have R0:=jh (R5.out.of_block (kX B R5.out.lt));have P0:=jh (P5.out.trans o0 λj hj=>by cases hj);have yA:=jh (And.intro hr hs0);have HDD:=jh hD;rw[hrr];clear hrg0 hg0 hs0 hr hrr o0 kX hown hD q6 f6 c6 XP L5 T5 A5 R5 P5 MV' HD4;refine jh ?_;go_wp2
 go_loopg [] (Maps.size D) (λQ wr=>∃(left:Lit→Bool) (Fq cp2:Int→Nat) (M2:Int→Option Value),Hid (CpI F inc M n D r mZ w0.heap.size left Q Fq cp2 M2 wr)∧Hid (Off [r,mZ] w0 wr))
 case atStart=>exact⟨_,_,_,_,HC0,jh (Off.refl _ _)⟩
 case round=>
  clear HC0;obtain⟨left,Fq,cp2,M2,HC,HO⟩:=hrel;have hrg:=HC.out.rg
  go_wp2_with (at_next;refine wpList_next_ranges _ rfl _ rfl 25 (int_keyed Tryz.underlying25) kJ (Value.int .u64) (λv=>v) (λkey kl hkey=>by obtain⟨x,rfl,_⟩:=Maps.keyOf_int_inv Tryz.underlying25 hkey;exact⟨x,rfl⟩) (λv y _=>⟨v,rfl⟩) F.mb r n D left _ rfl hrg ?_ ?_)
  ·intro _ hl0;have HL0:=jh hl0;clear hrg hl0;go_wp2;go_ret;have hz:=yA.out;have z1:=HBB.out;have z2:=HZ2.out;have z3:=HZ3.out;have z3':=HY3.out;have z4:=J6.out;have z4':=HY4.out;have z5:=XO.out;have hmb:=XZ.out;have zB1:=R1.out.lt;have zB2:=R2.out.lt;have zB3:=R3.out.lt;have hib:∀x∈F.ks,w0.heap.size≤Fq x:=λx hx=>fP (HC.out.ow x hx (HL0.out _)) rfl;have hwz:=HO.out.size;have oW:Off [] w1 wr:=P0.out.trans (HO.out.mono (S':=[r,mZ]) λj hj=>.inl hj) (λj hj=>.inr (by simp at hj;omega));have kR:∀j<w0.heap.size,j≠r→j≠mZ→wr.heap[j]?=w0.heap[j]?:=λj h1 h2 h3=>HO.out.block j h1 (by simp;omega)
   have lW1:W1.heap.size≤W2.heap.size:=by
    by_cases q:W1.heap.size≤W2.heap.size
    ·exact q
    ·exfalso;have:=WX.out ar2.h (iI.ak.2 (.inl rfl));omega
   have G:∀i j,j∈(⟨B,ar2,tb3,(Value.slice a4 bg p4).ownBlock,mZ,F.ks,Fq⟩:bD).aP i→(i=0∧j=B)∨(i=1∧W1.heap.size≤j∧j<W2.heap.size)∨(i=2∧X2.heap.size≤j∧j<W3.heap.size)∨(i=3∧X3.heap.size≤j∧j<W4.heap.size)∨(i=4∧j=mZ)∨(i=5∧w0.heap.size≤j):=λi j hj=>by
    match i,hj with
    |0,hj=>exact .inl ⟨rfl,by simpa [bD.aP] using hj⟩
    |1,hj=>exact .inr (.inl ⟨rfl,WX.out j hj⟩)
    |2,hj=>exact .inr (.inr (.inl ⟨rfl,CJ.out j hj⟩))
    |3,hj=>exact .inr (.inr (.inr (.inl ⟨rfl,Uj.out j (Option.mem_toList.1 hj)⟩)))
    |4,hj=>exact .inr (.inr (.inr (.inr (.inl ⟨rfl,by simpa [bD.aP] using hj⟩))))
    |5,hj=>
     obtain⟨x,hx,rfl⟩:=List.mem_map.1 hj;exact .inr (.inr (.inr (.inr (.inr ⟨rfl,hib x hx⟩))))
    |n+6,hj=>cases hj
   have hH:=H.out
   refine⟨⟨B,ar2,tb3,(Value.slice a4 bg p4).ownBlock,mZ,F.ks,Fq⟩,rfl,⟨hH.pw,hH.lim,⟨la,.slice a4 bg p4,c,?_,⟨jo (aG L0.out λg hg=>kR g (oC (Uj.out g hg)) (oC (Uj.out g hg)) (oC (Uj.out g hg))) (Nat.zero_le _),rfl,HB.out.1,HB.out.2,K.out.one⟩⟩,
    A0.out.keep λj hj=>kR j (oC (WX.out j hj)) (oC (WX.out j hj)) (oC (WX.out j hj)),
    T0.out.keep λj hj=>kR j (oC (CJ.out j hj)) (oC (CJ.out j hj)) (oC (CJ.out j hj)),
    ⟨cp2,M2,⟨HC.out.mp,λx=>?_,λx hx=>jo (HC.out.ow x hx (HL0.out _)) (Nat.zero_le _),K.out.ic.ne,K.out.ic.nd,λx hx y hy e=>HC.out.inj x hx y hy (HL0.out _) (HL0.out _) e⟩⟩,?_,hH.ok,hH.im,hH.nd⟩,⟨oW,λj hj=>?_⟩⟩
   ·refine(R0.out.of_block (kR B om om om)).congr λi hi=>?_
    match i,hi with
    |0,_ |1,_ |2,_ |3,_ |4,_ |5,_ |6,_=>rfl
    |k+7,e=>exact absurd e om
   ·rw[HC.out.at_ x]
    by_cases cx:x∈F.ks
    ·rw[if_pos cx,if_pos cx,if_neg (by rw[HL0.out];decide)]
    ·rw[if_neg cx,if_neg cx]
   ·intro i j hij x hx hy;have h1:=G i x hx;have h2:=G j x hy;omega
   ·right
    obtain⟨i,_,hx⟩:=bP.1 hj;have h1:=G i j hx;omega
  ·intro x cV kl y yp wn cnt' hkey hlk hv hat hrg1 hlt hg1 hs1 hen;obtain⟨x',ex,rfl,hwx⟩:=Maps.keyOf_int_inv Tryz.underlying25 hkey
   obtain rfl:x=x':=by cases ex;rfl
   obtain⟨rfl,rfl⟩:y=.held cV∧yp=[]:=by cases hv;exact⟨rfl,rfl⟩
   obtain⟨hd1,hd2⟩:=HDD.out x hwx;rw[has_true_of_atKey hat] at hd1;obtain⟨v',hv'⟩:=Option.isSome_iff_exists.1 hd1.symm;obtain rfl:cV=v':=DataW.held.inj ((hat .nil).symm.trans (hd2 v' hv' .nil))
   have hks:x∈F.ks:=by
    by_cases cx:x∈F.ks
    ·exact cx
    ·rw[K.out.ic.at_ x,if_neg cx] at hv';cases hv'
   obtain rfl:cV=.slice (some ⟨F.ib x,0,none⟩) (inc x).length (cp x):=by
    rw[K.out.ic.at_ x,if_pos hks] at hv';exact(Option.some.inj hv').symm
   have hz:=yA.out;have hmb:=XZ.out;have zB5:=HBB.out;have z4:=J6.out;have z5:=XO.out;have hwz:=HO.out.size;have o1:Off [r,mZ] w0 wn:=HO.out.trans (S':=[r]) ⟨hg1.os,hg1.tape,hg1.output,hg1.size,λj hj hn=>hg1.block j hj λe=>hn (by simpa using e)⟩ λj hj=>.inl (by simp at hj;simp[hj]);have ro:R0.out.lt=R0.out.lt:=rfl;have rB:=R0.out.of_block (o1.block B R0.out.lt (by simp;omega));have c6:wn.cell? ⟨B,6,none⟩=some (.map (some mZ)):=rB.c 6;have oW:Off [] w1 wn:=P0.out.trans (o1.mono (S':=[r,mZ]) λj hj=>.inl hj) (λj hj=>.inr (by simp at hj;omega));have kn:=K.out.off oW
   have WV:=jh (BN ((kn.keep (w':=wn.drew) λ_ _ _=>rfl).ic.ow x hks) (n:=(inc x).length) (by
    have h1:=jT (H.out.nd x) (m:=E) λk hk=>H.out.ok.ult k ((H.out.im x k).1 hk).1
    have:=H.out.lim;omega) (LW _))
   have vF:wn.drew.cell? ⟨B,6,none⟩=some (.map (some mZ)):=c6;have HS:=vF;have X6:=jh (And.intro hks (And.intro hwx hs1));have HRG:=jh hrg1;have Nv:=jh hg1;have oJ:=jh hlt;have O1:=jh o1;have RB:=jh rB;have MP:=jh (HC.out.mp.keep (w':=wn) (hg1.block mZ HC.out.mp.lt λe=>oC (Option.some.inj e)));have hrB:r≠B:=om;obtain⟨m,hm⟩:=nE ((inc x).length);have HMM:=jh hm;rw[hm] at WV hen;clear hkey ex hlk hv hat hrg1 hlt hg1 hs1 hd1 hd2 hv' hks hz hmb zB5 z4 z5 hwz o1 ro rB c6 oW kn vF hrg hwx hm;go_wp2_with fail;clear hen;refine aj (λw'=>w'.cell? ⟨B,6,none⟩=some (.map (some mZ))) (by kernel_rfl) ?_;refine tC 0 ?_;refine tC 1 ?_;refine tC 2 ?_;refine tC 3 ?_
   try simp only[sD]
   refine rC 4 λK2 hK=>?_;go_simp;apply mO WV;rintro e W6 ⟨v6,rfl,w6,o6⟩
   have hm0:0<m:=by
    rw[←HMM.out];exact List.length_pos_iff.2 ((K.out.ic.ne x).1 X6.out.1)
   obtain⟨g,cap,rfl,hgl⟩:∃g cap,v6=.slice (some ⟨g,0,none⟩) m cap∧wn.heap.size≤g:=by
    rcases w6.2 with⟨_,e⟩ |⟨g,cap,cur,e,hb,_⟩
    ·omega
    ·exact⟨g,cap,e,hb⟩
   dsimp only
   have on6:Off [] wn W6:=(Off.refl _ _).drew.trans o6 λj hj=>by cases hj
   refine hK.out _ _ ((RB.out.of_block (on6.block B RB.out.lt sj)).c 6) (λHS=>?_);have hwf:=X6.out.2.1
   obtain⟨w7,hup,mp7,bm7⟩:=(MP.out.keep (w':=W6) (on6.block mZ MP.out.lt sj)).upd (t:=134) Tryz.underlying25 Tryz.underlying134 hwf (K:=s.TU.map (aJ s.ids)) (λy z hz=>by
    have hy:y∈F.ks:=by
     by_cases cy:y∈F.ks
     ·exact cy
     ·rw[HC.out.at_ y,if_neg cy] at hz;cases hz
    obtain⟨q,hq⟩:=List.exists_mem_of_ne_nil _ ((K.out.ic.ne y).1 hy);have:=(H.out.im y q).1 hq
    exact St.fu.2 ((H.out.ok.Ej y).2 ⟨q,this.1,this.2⟩)) (by rw[List.length_map];have:=H.out.IV;have:=H.out.lim;unfold maxLen;omega) (.slice (some ⟨g,0,none⟩) m cap)
   have W6':=jh (show W6.ownsRow wn.heap.size 3 1 (.slice (some ⟨g,0,none⟩) (inc x).length cap) (inc x).length ((bH (inc x)).map (Value.int .i64)) by rw[HMM.out];exact w6);have O6:=jh on6;have MP7:=jh mp7;have BM7:=jh bm7;clear hK WV w6 o6 hgl hm0 on6 mp7 bm7 hwf;refine rC 5 λK2 hK=>?_;go_simp;have adN:B≠mZ:=oC XZ.out;have rB7:=(RB.out.of_block (O6.out.block B RB.out.lt sj)).of_block (BM7.out.off.block B (oD RB.out.lt O6.out.size) (by simpa using adN));refine hK.out _ _ (rB7.c 6) (λHS=>?_);clear hK hup rB7 HS adN;refine dD ⟨rfl,?_⟩;have hz:=yA.out;have hmb:=XZ.out;have z4:=J6.out;have z5:=XO.out;have hwz:=HO.out.size;have hfm:=HFM.out;have hbb:=HBB.out;have C:=HC.out.step HRG.out Nv.out X6.out.1 W6'.out O6.out (by rw[HMM.out];exact MP7.out) BM7.out hwz om om om ⟨om,om⟩;have HC7:=jh C;have Cc:Hid (Off [r,mZ] w0 w7):=jh ((O1.out.trans O6.out λj hj=>by cases hj).trans BM7.out.off λj hj=>.inl (by simp at hj;simp[hj]));clear C hz hmb z4 z5 hwz hfm hbb;go_wp2
   go_roundg cnt'
   case measure=>exact oJ.out
   case rel=>exact⟨_,_,_,_,HC7,Cc⟩
end
end
section
variable {w:World} {f:iL} {S N:Nat} {ids:List Int} {U:List Nat}
theorem Tryz.YQ:∃i z,Tryz.prog.info? 25=some i∧i.zero=some z∧i.size=1∧i.bytes=8:=by
 obtain⟨i,hi,hzz⟩:=Option.map_eq_some_iff.1 Tryz.Bu;simp only[Prod.mk.injEq] at hzz;exact⟨i,_,hi,hzz.1,hzz.2.1,hzz.2.2⟩
theorem Kt {U:List Nat} {n x:Nat}:x∈ji U n↔x<n∧x∈U:=by
 unfold ji;simp
theorem wF {U:List Nat} {n:Nat} (hU:U.Nodup) (hl:∀i∈U,i<n):(ji U n).Perm U:=by
 refine(List.perm_ext_iff_of_nodup ?_ hU).2 λx=>?_
 ·exact List.nodup_range.filter _
 ·rw[Kt];exact⟨λh=>h.2,λh=>⟨hl x h,h⟩⟩
theorem Ky (l:List Int) (x:Int):jL (l++[x])=jL l++[.int .u64 x]:=by simp[jL]
theorem KA (h:Ap w f S N (bM N) ids U) (hS:S≤65536) (h12:U.length≤12):
  Calls Tryz.prog 187 #[.pointer (some ⟨f.h,0,none⟩)] w λe w'=>∃g cap l,e=.returned (.slice (some ⟨g,0,none⟩) (U.length:Nat) cap)∧gy w.heap.size (.slice (some ⟨g,0,none⟩) (U.length:Nat) cap) l w'∧l.Perm (U.map (aJ ids))∧l.Pairwise (·≤·)∧Off [] w w':=by
 obtain⟨iv,cl,m,ok⟩:=h;have hUn:=m.ar.nd;obtain⟨K,hK⟩:=nE U.length;have hbg:ids.length≤65536:=Nat.le_trans ok.le hS;have HV:=jh (iN m);have HL:=jh (uS m.ar);rw[hK] at HL h12⊢;have c1:=m.c1;obtain⟨i0,z0,hi0,hz0,h20,h30⟩:=Tryz.YQ;obtain⟨w3,hmk,hown3,hgr⟩:=run_make_own (P:=Tryz.prog) w w.heap.size 71 25 i0 z0 1 RH.ht hi0 hz0 h20 .i64 .i64 K (by rw[h30];omega) (by unfold maxLen;omega) (Nat.le_refl _);have dh:Hid (Off [] w w3):=jh ⟨hgr.os,hgr.tape,hgr.output,hgr.size,λj hj _=>hgr.block j hj sj⟩;have m3:iX w3 f S N iv ids cl U:=m.keep λj hj=>dh.out.block j (m.lt j hj) sj;have c13:=m3.c1;have HLI:=jh (Al m3.ar hS);have Ro:=wF hUn (n:=ids.length) ok.lt;obtain⟨UL,hUL⟩:=nE (ji U ids.length);rw[hUL] at HLI Ro;have hlen:UL.length=K:=Ro.length_eq.trans hK;have ac5:∀i∈UL,i<ids.length:=λi hi=>ok.lt i (Ro.mem_iff.1 hi);have bK:(0:Int)≤K∧(K:Int)≤12:=om;have HOW:Hid (gy w.heap.size (.slice (some ⟨w.heap.size,0,none⟩) (0:Nat) K) [] w3):=jh hown3;have HM:=jh m;have HP:=jh Ro;have HN:=jh hlen;have HT:=jh ac5;have HB:=jh hbg;have H12:=jh h12;have acS:w.heap.size<w3.heap.size:=aN hown3 rfl;have HZ:=jh acS;clear m m3 ok hUn hK hbg hown3 hgr hi0 hz0 h20 h30 Ro hUL hlen ac5 acS h12;go_in;go_wp2_with fail;apply mO HV;rintro e w1 ⟨rfl,rfl⟩;go_wp2_with fail;apply mO HL;rintro e w1 ⟨rfl,rfl⟩;go_wp2_with fail;apply mO HLI;rintro e w4 ⟨lv,rfl,Rq,hO4⟩;obtain⟨al,cal,A0,rfl,_⟩:=jf Rq;rw[HN.out]
 have o4:Off [] w1 w4:=dh.out.trans hO4 λj hj=>by cases hj
 have HOI:=jh Rq;have oJ:=jh (λg (hg:(Value.slice al UL.length cal).ownBlock=some g)=>And.intro (fP (show w4.ownsRow w3.heap.size _ 1 _ UL.length _ from Rq) hg) (aN (show w4.ownsRow w3.heap.size _ 1 _ UL.length _ from Rq) hg));have jw:=jh o4;have Im:=jh (show gy w1.heap.size (.slice (some ⟨w1.heap.size,0,none⟩) (0:Nat) K) [] w4 from aG (show w3.ownsRow w1.heap.size _ 1 _ 0 _ from HOW.out) λg hg=>hO4.block g (aN (show w3.ownsRow w1.heap.size _ 1 _ 0 _ from HOW.out) hg) sj);clear Rq hO4 o4 c1 c13 hmk HV HL HLI HOW;go_wp2
 go_loopg [3,21] K (λQ lv iv wr=>∃i g cp:Nat,Q+i=K∧lv=.slice (some ⟨g,0,none⟩) i cp∧iv=.int .i64 i∧Hid (gy w1.heap.size (.slice (some ⟨g,0,none⟩) i cp) ((UL.take i).map (aJ ids)) wr)∧Hid (Off [] w1 wr)∧Hid (iG w3.heap.size (.slice al UL.length cal) UL wr)∧Hid ((Value.slice al UL.length cal).ownBlock≠some g))
 case atStart=>exact⟨0,_,_,rfl,rfl,rfl,Im,jw,HOI,jh λc=>oD (oJ.out _ c) HZ.out⟩
 case round=>
  clear Im jw HOI;obtain⟨i,g,cp,hQ,rfl,rfl,HL,HF,HI,HD⟩:=hrel
  by_cases hlt:i<K
  ·have d1:decide ((i:Int)<K)=true:=dP om;have d2:decide (i<K)=true:=dP hlt;obtain⟨j,hj⟩:=nE (i+1);have wj:(i:Int)+1=(j:Int):=om
   have hil:i<UL.length:=by rw[HN.out];exact hlt
   obtain⟨x,hx⟩:=nE (UL.getD i 0)
   have hxm:x∈UL:=by rw[←hx,List.getD_eq_getElem?_getD,List.getElem?_eq_getElem hil];exact List.getElem_mem _
   have hxl:=HT.out x hxm;have bi:(0:Int)≤i∧(i:Int)<K∧(K:Int)≤12∧(0:Int)≤j∧(j:Int)≤12∧(0:Int)≤x∧(x:Int)<ids.length:=om;obtain⟨a',c',A',e,hrd⟩:=jf HI.out
   obtain⟨rfl,rfl⟩:al=a'∧cal=c':=by cases e;exact⟨rfl,rfl⟩
   have ix:=hrd.ix i hil;have cl:=hrd.cell i hil 0 om;rw[add_zero] at cl
   have cl':wr.cell? (A' i)=some (.int .i64 x):=by rw[cl];unfold nums;rw[lM,hx]
   rw[HN.out] at ix;have mr:=HM.out.keep (w':=wr) λq hq=>HF.out.block q (HM.out.lt q hq) sj;obtain⟨gi,ci,e2,_⟩:=mr.sl (Nat.lt_of_le_of_lt (Nat.zero_le _) hxl);subst e2;have c2:=mr.c2;have ic:=(mr.ic hxl).1;obtain⟨n,hn⟩:=nE ids.length
   have HLW:=jh (show wr.ownsRow w1.heap.size 25 1 (.slice (some ⟨g,0,none⟩) i cp) i (jL ((UL.take i).map (aJ ids))) from by
    have:=HL.out;unfold gy at this;rw[List.length_map,List.length_take,Nat.min_eq_left om] at this
    exact this)
   have hsz:=HF.out.size;have HS:=jh (show jL ((UL.take j).map (aJ ids))=jL ((UL.take i).map (aJ ids))++[.int .u64 (aJ ids x)] by rw[←hj,jM hil,hx,List.map_append,List.map_singleton,Ky]);have HJ:=jh hj;have HQ:=jh hQ;have NT:=jh hil;rw[hn] at c2 bi;clear e hrd cl mr hxm hxl hx hil hj hQ hlt hn
   go_wp2_with (at_builtin;refine push RH rfl _ _ rfl w1.heap.size _ _ _ HLW.out rfl #[.int .u64 (aJ ids x)] _ rfl rfl rfl (by simp[Value.oneCell']) om om hsz ?_;intro g2 cp2 w5 hown5 hg5 hv5;refine Hid.out ?_)
   have hO5:gy w1.heap.size (.slice (some ⟨g2,0,none⟩) j cp2) ((UL.take j).map (aJ ids)) w5:=by
    unfold gy;rw[HS.out,List.length_map,List.length_take,Nat.min_eq_left (oD HJ.out NT.out),←HJ.out];exact hown5
   have hgb:w1.heap.size≤g:=fP HLW.out rfl
   have XB:Off [] w1 w5:=⟨hg5.os.trans HF.out.os,hg5.tape.trans HF.out.tape,hg5.output.trans HF.out.output,Nat.le_trans hsz hg5.size,λq hq _=>(hg5.block q om λe=>by
    have:q=g:=Option.some.inj e
    omega).trans (HF.out.block q hq sj)⟩
   have hI5:iG w3.heap.size (.slice al UL.length cal) UL w5:=aG (show wr.ownsRow w3.heap.size _ 1 _ UL.length _ from HI.out) λq hq=>hg5.block q (aN (show wr.ownsRow w3.heap.size _ 1 _ UL.length _ from HI.out) hq) λe=>HD.out (hq.trans (by rw[e];rfl))
   have hD5:(Value.slice al UL.length cal).ownBlock≠some g2:=λc=>by
    rcases hv5 with e |e
    ·exact HD.out (c.trans e.symm)
    ·have:=aN (show wr.ownsRow w3.heap.size _ 1 _ UL.length _ from HI.out) c;omega
   have nk:=jh hO5;have HF5:=jh XB;have HI5:=jh hI5;have HD5:=jh hD5;clear hO5 XB hI5 hD5 hgb hown5 hg5 hv5 HLW hsz ix cl' c2 ic;refine jh ?_;go_wp2
   go_roundg (K-j)
   case measure=>have:=HJ.out;have:=HQ.out;omega
   case rel=>exact⟨j,g2,cp2,oC HJ.out,by rw[←HJ.out],rfl,nk,HF5,HI5,HD5⟩
  ·have d1:decide ((i:Int)<K)=false:=dF om;have d2:decide (i<K)=false:=dF hlt;obtain rfl:i=K:=om;have ht:UL.take i=UL:=List.take_of_length_le (by rw[HN.out];exact Nat.le_refl _);rw[ht] at HL;have HSo:=jh (KR HL.out (by rw[List.length_map];exact HN.out) H12.out);have hgb:w1.heap.size≤g:=fP (show wr.ownsRow w1.heap.size _ 1 _ _ _ from HL.out) rfl;have Fw:=jh hgb;clear hlt ht hgb;go_wp2_with fail;apply mO HSo;rintro e w5 ⟨rfl,l',hp,hs,hO,hoff⟩;go_wp2;go_ret;exact⟨g,cp,l',rfl,hO,hp.trans (HP.out.map _),hs,(HF.out.mono (S':=[g]) λj hj=>by cases hj).trans hoff (λj hj=>.inl hj) |>.mono λj hj=>.inr (by simp at hj;rw[hj];exact Fw.out)⟩
end
end Go.Proofs.YtpaeogglppampaaGreatDoor
