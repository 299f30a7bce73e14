/- Lemmas of the proof. Conditions: as each one states. -/
import Derived.Test.YtpaeogglppampaaGreatDoorQh
import Derived.Test.YtpaeogglppampaaGreatDoorQD
set_option maxRecDepth 100000
set_option maxHeartbeats 16000000
namespace Go.Proofs.YtpaeogglppampaaGreatDoor
open Go.RowKit
section
open Go.Shelf
theorem xV (b n c:Nat) (news:List Value) (w:World) (hl:news.length=n*1) (hn:n≤1000000) (hc:∀j u,news[j]?=some u→w.cell? ⟨b,j,none⟩=some u) (h1:∀u∈news,u.oneCell'=true):
  Calls Tryz.prog 88 #[.slice (some ⟨b,0,none⟩) n c] w λe w'=>∃v',e=.returned v'∧w'.ownsRow w.heap.size 3 1 v' n news∧v'≠.slice none 0 0∧Off [] w w':=by
 obtain⟨i,hi,hzz⟩:=Option.map_eq_some_iff.1 Tryz.ng;simp only[Prod.mk.injEq] at hzz
 have hz:∀w,(Go.sizeOf 3).run Tryz.prog w=.ok 1 w:=λw=>by simp[sizeOf,typeInfo,hi,hzz.2.1]
 refine(AnyE.slices_Clone Tryz.cloneIntA i _ 1 8 hi hzz.1 hzz.2.1 hzz.2.2 (by simp[Value.cells]) om hz b 0 n c news w hl (by unfold maxLen;omega) om (λj u hj=>by rw[Nat.zero_add];exact hc j u hj) h1).mono ?_;rintro e w' ⟨v',h1,h2,h3,h4⟩;exact⟨v',h1,h2,h3,Off.of_below h4⟩
theorem BN {base n:Nat} {v:Value} {news:List Value} {w:World} (h:w.ownsRow base 3 1 v n news) (hn:n≤1000000) (h1:∀u∈news,u.oneCell'=true):
  Calls Tryz.prog 88 #[v] w λe w'=>∃v',e=.returned v'∧w'.ownsRow w.heap.size 3 1 v' n news∧Off [] w w':=by
 have hl:=h.1;have h':=h
 rcases h'.2 with⟨e,e0⟩ |⟨g,cap,cur,e,_⟩
 ·subst e e0;refine(AnyE.slices_Clone_nil Tryz.cloneIntA 0 0 w).mono ?_;rintro e w' ⟨rfl,rfl⟩;obtain rfl:news=[]:=List.eq_nil_of_length_eq_zero om;exact⟨_,rfl,World.ownsRow_nil _ _ _ _,Off.refl _ _⟩
 ·subst e;refine(xV g n cap news w hl hn (λj u hj=>(aD h hj).1) h1).mono ?_;rintro e w' ⟨v',h1,h2,_,h4⟩;exact⟨v',h1,h2,h4⟩
theorem Hl (b n c:Nat) (news:List Value) (w:World) (hl:news.length=n*1) (hn:n≤1000000) (hc:∀j u,news[j]?=some u→w.cell? ⟨b,j,none⟩=some u) (h1:∀u∈news,u.oneCell'=true):
  Calls Tryz.prog 125 #[.slice (some ⟨b,0,none⟩) n c] w λe w'=>∃v',e=.returned v'∧w'.ownsRow w.heap.size 25 1 v' n news∧v'≠.slice none 0 0∧Off [] w w':=by
 obtain⟨i,hi,hzz⟩:=Option.map_eq_some_iff.1 Tryz.Bu;simp only[Prod.mk.injEq] at hzz
 have hz:∀w,(Go.sizeOf 25).run Tryz.prog w=.ok 1 w:=λw=>by simp[sizeOf,typeInfo,hi,hzz.2.1]
 refine(AnyE.slices_Clone Tryz.cloneU64A i _ 1 8 hi hzz.1 hzz.2.1 hzz.2.2 (by simp[Value.cells]) om hz b 0 n c news w hl (by unfold maxLen;omega) om (λj u hj=>by rw[Nat.zero_add];exact hc j u hj) h1).mono ?_;rintro e w' ⟨v',h1,h2,h3,h4⟩;exact⟨v',h1,h2,h3,Off.of_below h4⟩
theorem BM {base n:Nat} {v:Value} {news:List Value} {w:World} (h:w.ownsRow base 25 1 v n news) (hn:n≤1000000) (h1:∀u∈news,u.oneCell'=true):
  Calls Tryz.prog 125 #[v] w λe w'=>∃v',e=.returned v'∧w'.ownsRow w.heap.size 25 1 v' n news∧Off [] w w':=by
 have hl:=h.1;have h':=h
 rcases h'.2 with⟨e,e0⟩ |⟨g,cap,cur,e,_⟩
 ·subst e e0;refine(AnyE.slices_Clone_nil Tryz.cloneU64A 0 0 w).mono ?_;rintro e w' ⟨rfl,rfl⟩;obtain rfl:news=[]:=List.eq_nil_of_length_eq_zero om;exact⟨_,rfl,World.ownsRow_nil _ _ _ _,Off.refl _ _⟩
 ·subst e;refine(Hl g n cap news w hl hn (λj u hj=>(aD h hj).1) h1).mono ?_;rintro e w' ⟨v',h1,h2,_,h4⟩;exact⟨v',h1,h2,h4⟩
theorem Ho (b n c:Nat) (news:List Value) (w:World) (hl:news.length=n*2) (hn:n≤1000000) (hc:∀j u,news[j]?=some u→w.cell? ⟨b,j,none⟩=some u) (h1:∀u∈news,u.oneCell'=true):
  Calls Tryz.prog 127 #[.slice (some ⟨b,0,none⟩) n c] w λe w'=>∃v',e=.returned v'∧w'.ownsRow w.heap.size 110 2 v' n news∧v'≠.slice none 0 0∧Off [] w w':=by
 obtain⟨i,hi,hzz⟩:=Option.map_eq_some_iff.1 Tryz.QZ;simp only[Prod.mk.injEq] at hzz
 have hz:∀w,(Go.sizeOf 110).run Tryz.prog w=.ok 2 w:=λw=>by simp[sizeOf,typeInfo,hi,hzz.2.1]
 refine(AnyE.slices_Clone Tryz.cloneEntA i _ 2 16 hi hzz.1 hzz.2.1 hzz.2.2 (by simp[Value.cells]) om hz b 0 n c news w hl (by unfold maxLen;omega) om (λj u hj=>by rw[Nat.zero_add];exact hc j u hj) h1).mono ?_;rintro e w' ⟨v',h1,h2,h3,h4⟩;exact⟨v',h1,h2,h3,Off.of_below h4⟩
theorem tJ {base n:Nat} {v:Value} {news:List Value} {w:World} (h:w.ownsRow base 110 2 v n news) (hn:n≤1000000) (h1:∀u∈news,u.oneCell'=true):
  Calls Tryz.prog 127 #[v] w λe w'=>∃v',e=.returned v'∧w'.ownsRow w.heap.size 110 2 v' n news∧Off [] w w':=by
 have hl:=h.1;have h':=h
 rcases h'.2 with⟨e,e0⟩ |⟨g,cap,cur,e,_⟩
 ·subst e e0;refine(AnyE.slices_Clone_nil Tryz.cloneEntA 0 0 w).mono ?_;rintro e w' ⟨rfl,rfl⟩;obtain rfl:news=[]:=List.eq_nil_of_length_eq_zero om;exact⟨_,rfl,World.ownsRow_nil _ _ _ _,Off.refl _ _⟩
 ·subst e;refine(Ho g n cap news w hl hn (λj u hj=>(aD h hj).1) h1).mono ?_;rintro e w' ⟨v',h1,h2,_,h4⟩;exact⟨v',h1,h2,h4⟩
theorem EM (b n c:Nat) (news:List Value) (w:World) (hl:news.length=n*7) (hn:n≤1000000) (hc:∀j u,news[j]?=some u→w.cell? ⟨b,j,none⟩=some u) (h1:∀u∈news,u.oneCell'=true):
  Calls Tryz.prog 86 #[.slice (some ⟨b,0,none⟩) n c] w λe w'=>∃v',e=.returned v'∧w'.ownsRow w.heap.size 52 7 v' n news∧v'≠.slice none 0 0∧Off [] w w':=by
 obtain⟨i,hi,hzz⟩:=Option.map_eq_some_iff.1 Tryz.Bv;simp only[Prod.mk.injEq] at hzz
 have hz:∀w,(Go.sizeOf 52).run Tryz.prog w=.ok 7 w:=λw=>by simp[sizeOf,typeInfo,hi,hzz.2.1]
 refine(AnyE.slices_Clone Tryz.cloneLiveA i _ 7 56 hi hzz.1 hzz.2.1 hzz.2.2 (by simp[Value.cells]) om hz b 0 n c news w hl (by unfold maxLen;omega) om (λj u hj=>by rw[Nat.zero_add];exact hc j u hj) h1).mono ?_;rintro e w' ⟨v',h1,h2,h3,h4⟩;exact⟨v',h1,h2,h3,Off.of_below h4⟩
theorem yY {base n:Nat} {v:Value} {news:List Value} {w:World} (h:w.ownsRow base 52 7 v n news) (hn:n≤1000000) (h1:∀u∈news,u.oneCell'=true):
  Calls Tryz.prog 86 #[v] w λe w'=>∃v',e=.returned v'∧w'.ownsRow w.heap.size 52 7 v' n news∧Off [] w w':=by
 have hl:=h.1;have h':=h
 rcases h'.2 with⟨e,e0⟩ |⟨g,cap,cur,e,_⟩
 ·subst e e0;refine(AnyE.slices_Clone_nil Tryz.cloneLiveA 0 0 w).mono ?_;rintro e w' ⟨rfl,rfl⟩;obtain rfl:news=[]:=List.eq_nil_of_length_eq_zero om;exact⟨_,rfl,World.ownsRow_nil _ _ _ _,Off.refl _ _⟩
 ·subst e;refine(EM g n cap news w hl hn (λj u hj=>(aD h hj).1) h1).mono ?_;rintro e w' ⟨v',h1,h2,_,h4⟩;exact⟨v',h1,h2,h4⟩
theorem fP {w:World} {base size n:Nat} {e:TypeId} {v:Value} {xs:List Value} (h:w.ownsRow base e size v n xs) {g:Nat} (hg:v.ownBlock=some g):base≤g:=by
 rcases h.2 with⟨rfl,_⟩ |⟨g',cap,cur,rfl,hb,_⟩
 ·cases hg
 ·have:g'=g:=by simpa [Value.ownBlock] using hg
  omega
theorem uq {w:World} {base size n:Nat} {e:TypeId} {v:Value} {xs:List Value} (h:w.ownsRow base e size v n xs):∃a cap,v=.slice a n cap:=by
 rcases h.2 with⟨e,e0⟩ |⟨g,cap,cur,e,_⟩
 ·exact⟨none,0,by rw[e,e0]⟩
 ·exact⟨some ⟨g,0,none⟩,cap,e⟩
theorem jo {w:World} {base base' size n:Nat} {e:TypeId} {v:Value} {xs:List Value} (h:w.ownsRow base e size v n xs) (hb:base'≤base):w.ownsRow base' e size v n xs:=
 ⟨h.1,h.2.imp id (by rintro⟨g,cap,cur,e1,e2,e3⟩;exact⟨g,cap,cur,e1,om,e3⟩)⟩
end
section
variable {w w':World} {f:bY} {S:Nat} {sv:Value} {pl Ck:Nat→Nat} {L:List En}
theorem eT.newC (h:eT w f S sv pl L) {k:Nat} (hk:k<(S+63) / 64) (hn:f.pv k=none) (o:Obj) (ho:Row (w.alloc o) w.heap.size 64 (λj=>.int .i64 (Ck (64*k+j):Nat))) (hpl:∀i,i / 64≠k→Ck i=pl i):
  eT ((w.alloc o).setCell ⟨f.pb,k,none⟩ (.pointer (some ⟨w.heap.size,0,none⟩))) (f.nH k w.heap.size) S sv Ck L:=by
 have hpb:=h.pr.lt;have hh:=h.hr.lt;have hd:∀j<w.heap.size,j≠f.pb→((w.alloc o).setCell ⟨f.pb,k,none⟩ (.pointer (some ⟨w.heap.size,0,none⟩))).heap[j]?=w.heap[j]?:=λj hj hne=>(Below.heap_setCell _ _ _ _ hne).trans (Below.heap_alloc _ _ _ hj)
 have PI:∀j c,(f.nH k w.heap.size).pv j=some c→j=k∧c=w.heap.size∨j≠k∧f.pv j=some c:=λj c e=>by
  unfold bY.nH at e;simp only at e
  by_cases c1:j=k
  ·rw[if_pos c1] at e;exact .inl ⟨c1,(Option.some.inj e).symm⟩
  ·rw[if_neg c1] at e;exact .inr ⟨c1,e⟩
 refine⟨h.hr.of_block (hd _ hh h.n1),aG h.ow λg hg=>hd g (aN h.ow hg) (λe=>h.n2.2 (by rw[←h.og,hg,e])),h.og,?_,λj hj c hc=>?_,λj hj hz=>?_,h.n1,h.n2,λj c hj hc=>?_,λj j' c hj hj' hc hc'=>?_⟩
 ·refine((h.pr.alloc o).set k (.pointer (some ⟨w.heap.size,0,none⟩))).congr λj _=>?_;show _=Value.pointer (((f.nH k w.heap.size).pv j).map _);unfold bY.nH;simp only
  by_cases c1:j=k
  ·rw[if_pos c1,if_pos c1];rfl
  ·rw[if_neg c1,if_neg c1]
 ·rcases PI j c hc with⟨rfl,rfl⟩ |⟨c1,hc⟩
  ·exact Row.setOther ho (by show w.heap.size≠f.pb;omega) _
  ·have hb:=h.bk j hj c hc
   exact(hb.of_block (hd c hb.lt (h.n3 j c hj hc).2.1)).congr λx hx=>by rw[hpl (64*j+x) om]
 ·unfold bY.nH at hz;simp only at hz
  by_cases c1:j / 64=k
  ·rw[if_pos c1] at hz;cases hz
  ·rw[if_neg c1] at hz;rw[hpl j c1];exact h.zz j hj hz
 ·rcases PI j c hc with⟨rfl,rfl⟩ |⟨c1,hc⟩
  ·exact⟨by show _≠f.h;omega,by show _≠f.pb;omega,λe=>oC (aN h.ow (h.og.trans e))⟩
  ·exact h.n3 j c hj hc
 ·rcases PI j c hc with⟨e1,e2⟩ |⟨_,h1⟩
  ·rcases PI j' c hc' with⟨e3,_⟩ |⟨_,h2⟩
   ·rw[e1,e3]
   ·have:=(h.bk j' hj' _ h2).lt;omega
  ·rcases PI j' c hc' with⟨_,e4⟩ |⟨_,h2⟩
   ·have:=(h.bk j hj _ h1).lt;omega
   ·exact h.n4 j j' c hj hj' h1 h2
theorem eT.Dy (h:eT w f S sv pl L) (e:∀i,i / 64<(S+63) / 64→Ck i=pl i):eT w f S sv Ck L:=
 ⟨h.hr,h.ow,h.og,h.pr,λk hk c hc=>(h.bk k hk c hc).congr λj hj=>by rw[e _ om],λi hi hz=>(e i hi).trans (h.zz i hi hz),h.n1,h.n2,h.n3,h.n4⟩
theorem gU.Dy (h:gU S pl L) (e:∀i<S,Ck i=pl i):gU S Ck L:=
 ⟨h.lt,λp hp=>(e _ (h.lt p hp)).trans (h.at_ p hp),λi hi h0=>by rw[e i hi] at h0⊢;exact h.inv i hi h0⟩
def vU (pl:Nat→Nat) (n:Nat):Nat→Nat:=λi=>if i / 64<n then pl i else 0
theorem JQ (L:List En):∀u∈yX L,u.oneCell'=true:=λu hu=>by
 unfold yX at hu;obtain⟨e,_,h⟩:=List.mem_flatMap.1 hu;simp only[List.mem_cons,List.not_mem_nil,or_false] at h
 rcases h with rfl |rfl<;>rfl
theorem Tryz.AO:(Tryz.prog.info? 231).map (·.size)=some 64:=by kernel_rfl
theorem Mg (h:oI w f S L) (hS:S≤65536):
  Calls Tryz.prog 89 #[.pointer (some ⟨f.h,0,none⟩)] w λe w'=>∃f',e=.returned (.pointer (some ⟨f'.h,0,none⟩))∧oI w' f' S L∧Bo [] (f'.bl S) w w':=by
 obtain⟨sv,pl,m,po,hp⟩:=h;obtain⟨nb,hnb⟩:=nE ((S+63) / 64);have c1:=m.c1;have c2:=m.c2;have c3:=m.c3;rw[hnb] at c3;have HV:=jh (jZ m);have vF:w.drew.cell? ⟨f.h,1,none⟩=some (.int .i64 S)∧w.drew.cell? ⟨f.h,2,none⟩=some sv∧w.drew.cell? ⟨f.h,3,none⟩=some (.slice (some ⟨f.pb,0,none⟩) nb nb):=⟨c1,c2,c3⟩;have HS:=vF;have HL:=jh (Nat.le_trans po.le hS);have Fa:=jh (tJ (m.keep (w':=w.drew) λ_ _=>rfl).ow (oC HL.out) (JQ L));have M:=jh m;have PO:=jh (And.intro po hp);have HN:=jh hnb;have bnb:nb≤1024:=om;clear m po hp hnb c1 c2 c3;go_in;go_wp2_with fail;apply mO HV;rintro e w1 ⟨rfl,rfl⟩;go_wp2;refine aj (λw'=>w'.cell? ⟨f.h,1,none⟩=some (.int .i64 S)∧w'.cell? ⟨f.h,2,none⟩=some sv∧w'.cell? ⟨f.h,3,none⟩=some (.slice (some ⟨f.pb,0,none⟩) nb nb)) (by kernel_rfl) ?_;refine tC 0 ?_;refine tC 1 ?_;refine tC 2 ?_;refine tC 3 ?_;refine tC 4 ?_;refine tC 5 ?_;refine tC 6 ?_;refine tC 7 ?_;refine tC 9 ?_;refine tC 10 ?_;refine tC 11 ?_;refine tC 12 ?_;refine tC 13 ?_
 try simp only[sD]
 refine Py [8,14] ?_;refine AllReadyH.cons rfl (λK hK=>?_) (AllReadyH.cons rfl (λK hK=>?_) AllReadyH.nil)
 ·go_simp;apply mO Fa;rintro e W1 ⟨v2,rfl,w2,o2⟩;obtain⟨a2,p2,rfl⟩:=uq w2;dsimp only
  have o1:Off [] w1 W1:=(Off.refl _ _).drew.trans o2 λj hj=>by cases hj
  have m1:=M.out.keep (w':=W1) λj hj=>o1.block j (M.out.lt hj) sj;have c13:=m1.c3;rw[HN.out] at c13;refine hK.out _ _ ⟨m1.c1,m1.c2,c13⟩ (λHS=>?_);have OW:=jh (jo w2 (Nat.le_refl w1.heap.size));have O1:=jh o1;have hmk:=run_make_row' (P:=Tryz.prog) 218 229 (.pointer none) 8 Tryz.underlying218 Tryz.Gr rfl .i64 .i64 nb om om W1;clear hK Fa w2 o2 o1 m1 c13;refine rC 14 λK hK=>?_;go_simp;have o2:Off [] w1 (W1.alloc (.cells (madeCells #[.pointer none] nb) 229)):=O1.out.alloc _;have m2:=M.out.keep λj hj=>o2.block j (M.out.lt hj) sj;have c23:=m2.c3;rw[HN.out] at c23;refine hK.out _ _ ⟨m2.c1,m2.c2,c23⟩ (λHS=>?_);clear hK o2 m2 c23;refine tC 15 ?_
  try simp only[sD]
  refine rC 16 λK hK=>?_;go_simp;have o3:Off [] w1 ((W1.alloc (.cells (madeCells #[.pointer none] nb) 229)).alloc (.cells #[.pointer none,.int .i64 S,.slice a2 L.length p2,.slice (some ⟨W1.heap.size,0,none⟩) nb nb] 221)):=(O1.out.alloc _).alloc _;have m3:=M.out.keep λj hj=>o3.block j (M.out.lt hj) sj;have c33:=m3.c3;rw[HN.out] at c33;refine hK.out _ _ ⟨m3.c1,m3.c2,c33⟩ (λHS=>?_);clear hK o3 m3 c33;refine tC 17 ?_
  try simp only[sD]
  refine dD ⟨rfl,?_⟩;clear HS;obtain⟨pb,hpb⟩:=nE W1.heap.size;obtain⟨hb,Gz⟩:=nE (pb+1);rw[hpb,Gz];obtain⟨W4,gT⟩:∃W,(W1.alloc (.cells (madeCells #[.pointer none] nb) 229)).alloc (.cells #[.pointer (some ⟨hb,0,none⟩),.int .i64 S,.slice a2 L.length p2,.slice (some ⟨pb,0,none⟩) nb nb] 221)=W:=⟨_,rfl⟩
  have r1:Row W4 pb nb (λ_=>.pointer none):=by rw[←gT,←hpb];exact(Row.made W1 (.pointer none) nb _).alloc _
  have r2:Row W4 hb 4 (λi=>(#[Value.pointer (some ⟨hb,0,none⟩),.int .i64 S,.slice a2 L.length p2,.slice (some ⟨pb,0,none⟩) nb nb]:Array Value).getD i undef):=by
   have:=Row.lit (n:=4) (f:=λi=>(#[Value.pointer (some ⟨hb,0,none⟩),.int .i64 S,.slice a2 L.length p2,.slice (some ⟨pb,0,none⟩) nb nb]:Array Value).getD i undef) (W1.alloc (.cells (madeCells #[.pointer none] nb) 229)) #[.pointer (some ⟨hb,0,none⟩),.int .i64 S,.slice a2 L.length p2,.slice (some ⟨pb,0,none⟩) nb nb] 221 (Nat.le_refl _) lC;rw[←gT];rw[World.size_alloc,hpb,Gz] at this;exact this
  have o4:Off [] w1 W4:=by rw[←gT];exact(O1.out.alloc _).alloc _
  have ow4:W4.ownsRow w1.heap.size 110 2 (.slice a2 L.length p2) L.length (yX L):=by rw[←gT];exact(OW.out.alloc _).alloc _
  have hnew:w1.heap.size≤pb∧w1.heap.size≤hb∧hb≠pb∧∀g,(Value.slice a2 L.length p2).ownBlock=some g→w1.heap.size≤g∧g≠pb∧g≠hb:=by
   have z:=O1.out.size;refine⟨om,om,om,λg hg=>?_⟩;have h1:=fP OW.out hg;have h2:=aN OW.out hg;exact⟨h1,om,om⟩
  have m4:=M.out.keep (w':=W4) λj hj=>o4.block j (M.out.lt hj) sj;have c3:=m4.c3;rw[HN.out] at c3;rw[←gT] at c3;have J8:=jh gT
  have I0:eT W4 ⟨hb,(Value.slice a2 L.length p2).ownBlock,pb,λ_=>none⟩ S (.slice a2 L.length p2) (vU pl 0) L:=by
   refine⟨by rw[HN.out];exact r2,jo ow4 (Nat.zero_le _),rfl,by rw[HN.out];exact r1,λk _ c hc=>(by cases hc),λi _ _=>if_neg (Nat.not_lt_zero _),hnew.2.2.1,⟨λc=>(hnew.2.2.2 _ c).2.2 rfl,λc=>(hnew.2.2.2 _ c).2.1 rfl⟩,λk c _ hc=>(by cases hc),λk k' c _ _ hc=>(by cases hc)⟩
  have B0:Bo [] (bY.bl ⟨hb,(Value.slice a2 L.length p2).ownBlock,pb,λ_=>none⟩ S) w1 W4:=⟨o4,λj hj=>.inr (by
   rcases bY.ak.1 hj with e |e |e |⟨k,_,e⟩
   ·have e':j=hb:=e;omega
   ·exact(hnew.2.2.2 j e).1
   ·have e':j=pb:=e;omega
   ·cases e)⟩
  have HI0:=jh I0;have HB0:=jh B0;clear gT r1 r2 o4 ow4 hnew m4 I0 B0;go_wp2_with fail;rw[J8.out];clear c3 J8
  go_loopg [36] nb (λQ iv wr=>∃(i:Nat) (pv:Nat→Option Nat),Q+i=nb∧iv=.int .i64 i∧Hid (∀k,i≤k→pv k=none)∧Hid (eT wr ⟨hb,(Value.slice a2 L.length p2).ownBlock,pb,pv⟩ S (.slice a2 L.length p2) (vU pl i) L)∧Hid (Bo [] (bY.bl ⟨hb,(Value.slice a2 L.length p2).ownBlock,pb,pv⟩ S) w1 wr))
  case atStart=>exact⟨0,_,rfl,rfl,jh λ_ _=>rfl,HI0,HB0⟩
  case round=>
   clear HI0 HB0;obtain⟨i,pv,hQ,rfl,HP,HA,Ny⟩:=hrel
   by_cases hlt:i<nb
   ·have d1:decide ((i:Int)<nb)=true:=dP om;have d2:decide (i<nb)=true:=dP hlt;obtain⟨j,hj⟩:=nE (i+1);have wj:(i:Int)+1=(j:Int):=om;have bi:(0:Int)≤i∧(i:Int)<nb∧(nb:Int)≤1024∧(0:Int)≤j∧(j:Int)≤1024:=om;have mr:=M.out.keep (w':=wr) λq hq=>Ny.out.off.block q (M.out.lt hq) sj
    have hin:i<(S+63) / 64:=by rw[HN.out];exact hlt
    have pc:=mr.pr.cell hin;have HJ:=jh hj;have HQ:=jh hQ;have tX:=jh hin
    have U1:∀q,q / 64≠i→vU pl j q=vU pl i q:=λq hq=>by
     unfold vU
     by_cases c:q / 64<i
     ·rw[if_pos om,if_pos c]
     ·rw[if_neg om,if_neg c]
    have YA:∀x<64,vU pl j (64*i+x)=pl (64*i+x):=λx hx=>if_pos om
    cases hpv:f.pv i with
    |none=>
     rw[hpv] at pc
     have hz:∀q,vU pl j q=vU pl i q:=λq=>by
      by_cases c:q / 64=i
      ·have:pl q=0:=mr.zz q (by rw[c];exact hin) (by rw[c];exact hpv);unfold vU;rw[this]
       split<;>split<;>rfl
      ·exact U1 q c
     have HZ2:=jh hz;clear mr hin hj hQ hlt U1 YA hz hpv;go_wp2
     go_roundg (nb-j)
     case measure=>have:=HJ.out;have:=HQ.out;omega
     case rel=>exact⟨j,pv,oC HJ.out,rfl,jh λk hk=>HP.out k (oC HJ.out),jh (HA.out.Dy λq _=>HZ2.out q),Ny⟩
    |some c=>
     rw[hpv] at pc;have HR:=jh (mr.bk i hin c hpv);have hn:(⟨hb,(Value.slice a2 L.length p2).ownBlock,pb,pv⟩:bY).pv i=none:=HP.out i (Nat.le_refl _);have G:=HA.out.newC (Ck:=vU pl j) hin hn (.cells (fO 64 (λj=>.int .i64 (pl (64*i+j):Nat))) 231) (Row.lit (n:=64) (f:=λx=>.int .i64 (vU pl j (64*i+x):Nat)) wr (fO 64 (λj=>.int .i64 (pl (64*i+j):Nat))) _ (Nat.le_of_eq (dK _ _).symm) (λx hx=>by rw[YA x hx];simp[fO])) U1;have cz:=(HA.out.hr.alloc (.cells (fO 64 (λj=>.int .i64 (pl (64*i+j):Nat))) 231)).c 3;have cp:=(HA.out.pr.alloc (.cells (fO 64 (λj=>.int .i64 (pl (64*i+j):Nat))) 231)).cell (i:=i) hin;have cf:=(HA.out.pr.alloc (.cells (fO 64 (λj=>.int .i64 (pl (64*i+j):Nat))) 231)).frozen i;rw[HN.out] at cz;have HG:=jh G;have cz2:(wr.alloc (.cells (fO 64 (λj=>.int .i64 (pl (64*i+j):Nat))) 231)).cell? ⟨hb,3,none⟩=some (.slice (some ⟨pb,0,none⟩) nb nb):=cz;clear mr hin hj hQ hlt U1 YA hpv hn G cz
     go_wp2_with (first |(refine gV HR.out rfl _ _ rfl rfl _ Tryz.underlying231 rfl Tryz.AO ?_) |(refine wpList_store_row rfl _ _ _ rfl wr.heap.size (fO 64 (λj=>.int .i64 (pl (64*i+j):Nat))) rfl rfl _ _ (heap_alloc_new _ _) (by rw[dK];exact Tryz.AO) (by rw[dK];rfl) (rH λ_ _=>rfl) ?_;rw[jB]))
     go_roundg (nb-j)
     case measure=>have:=HJ.out;have:=HQ.out;omega
     case rel=>exact⟨j,λq=>if q=i then some wr.heap.size else pv q,oC HJ.out,rfl,jh λk hk=>(if_neg (oC HJ.out)).trans (HP.out k (oC HJ.out)),jh HG.out,jh (Ny.out.trans ⟨((Off.refl _ wr).alloc _).setCell (p:=⟨pb,i,none⟩) (bY.ak.2 (.inr (.inr (.inl rfl)))) _,λq hq=>by
      rcases bY.ak.1 hq with e |e |e |⟨k,hk,e⟩
      ·exact .inl (bY.ak.2 (.inl e))
      ·exact .inl (bY.ak.2 (.inr (.inl e)))
      ·exact .inl (bY.ak.2 (.inr (.inr (.inl e))))
      ·by_cases c2:k=i
       ·have e':(if k=i then some wr.heap.size else pv k)=some q:=e;rw[if_pos c2] at e';exact .inr (Nat.le_of_eq (Option.some.inj e'))
       ·have e':(if k=i then some wr.heap.size else pv k)=some q:=e;rw[if_neg c2] at e'
        exact .inl (bY.ak.2 (.inr (.inr (.inr ⟨k,hk,e'⟩))))⟩)⟩
   ·have d1:decide ((i:Int)<nb)=false:=dF om;have d2:decide (i<nb)=false:=dF hlt;obtain rfl:i=nb:=om;clear hlt;go_wp2;go_ret;have e:∀q,q / 64<(S+63) / 64→vU pl i q=pl q:=λq hq=>if_pos (by rw[HN.out] at hq;exact hq);exact⟨⟨hb,(Value.slice a2 L.length p2).ownBlock,pb,pv⟩,rfl,⟨_,_,HA.out,PO.out.1.Dy λq hq=>e q om,PO.out.2⟩,Ny.out⟩
 ·have hmk:=run_make_row' (P:=Tryz.prog) 218 229 (.pointer none) 8 Tryz.underlying218 Tryz.Gr rfl .i64 .i64 nb om om w1.drew;go_simp;obtain⟨W1,hW1⟩:∃W,w1.drew.alloc (.cells (madeCells #[.pointer none] nb) 229)=W:=⟨_,rfl⟩;have hW1':(w1.alloc (.cells (madeCells #[.pointer none] nb) 229)).drew=W1:=hW1
  have o1:Off [] w1 W1:=by rw[←hW1];exact(Off.refl _ _).drew.alloc _
  have m1:=M.out.keep (w':=W1) λj hj=>o1.block j (M.out.lt hj) sj
  have rm:Row W1 w1.heap.size nb (λ_=>.pointer none):=by rw[←hW1];exact Row.made w1.drew (.pointer none) nb _
  have c13:=m1.c3;rw[HN.out] at c13;rw[hW1'];refine hK.out _ _ ⟨m1.c1,m1.c2,c13⟩ (λHS=>?_);have HC:=jh (tJ m1.ow (oC HL.out) (JQ L));have O1:=jh o1;have RM:=jh rm;have HZ:=jh (show W1.heap.size=w1.heap.size+1 by rw[←hW1];simp);clear hK Fa hmk hW1 hW1' o1 m1 rm c13;refine rC 8 λK hK=>?_;go_simp;apply mO HC;rintro e W2 ⟨v2,rfl,w2,o2⟩;obtain⟨a2,p2,rfl⟩:=uq w2;dsimp only
  have vW:Off [] w1 W2:=O1.out.trans o2 λj hj=>by cases hj
  have m2:=M.out.keep (w':=W2) λj hj=>vW.block j (M.out.lt hj) sj;have c23:=m2.c3;rw[HN.out] at c23;refine hK.out _ _ ⟨m2.c1,m2.c2,c23⟩ (λHS=>?_);have OW:=jh w2;have O12:=jh vW;have RM2:=jh (RM.out.of_block (o2.block _ RM.out.lt sj));have O2:=jh o2;clear hK HC w2 o2 vW m2 c23;refine tC 15 ?_
  try simp only[sD]
  refine rC 16 λK hK=>?_;go_simp;obtain⟨pb,hpb⟩:=nE w1.heap.size;obtain⟨hb,Gz⟩:=nE W2.heap.size;have o3:Off [] w1 (W2.alloc (.cells #[.pointer none,.int .i64 S,.slice a2 L.length p2,.slice (some ⟨pb,0,none⟩) nb nb] 221)):=O12.out.alloc _;have m3:=M.out.keep λj hj=>o3.block j (M.out.lt hj) sj;have c33:=m3.c3;rw[HN.out] at c33;rw[hpb];refine hK.out _ _ ⟨m3.c1,m3.c2,c33⟩ (λHS=>?_);clear hK o3 m3 c33;refine tC 17 ?_
  try simp only[sD]
  refine dD ⟨rfl,?_⟩;clear HS;rw[Gz];obtain⟨W4,gT⟩:∃W,W2.alloc (.cells #[.pointer (some ⟨hb,0,none⟩),.int .i64 S,.slice a2 L.length p2,.slice (some ⟨pb,0,none⟩) nb nb] 221)=W:=⟨_,rfl⟩
  have r1:Row W4 pb nb (λ_=>.pointer none):=by rw[←gT,←hpb];exact RM2.out.alloc _
  have r2:Row W4 hb 4 (λi=>(#[Value.pointer (some ⟨hb,0,none⟩),.int .i64 S,.slice a2 L.length p2,.slice (some ⟨pb,0,none⟩) nb nb]:Array Value).getD i undef):=by
   have:=Row.lit (n:=4) (f:=λi=>(#[Value.pointer (some ⟨hb,0,none⟩),.int .i64 S,.slice a2 L.length p2,.slice (some ⟨pb,0,none⟩) nb nb]:Array Value).getD i undef) W2 #[.pointer (some ⟨hb,0,none⟩),.int .i64 S,.slice a2 L.length p2,.slice (some ⟨pb,0,none⟩) nb nb] 221 (Nat.le_refl _) lC;rw[←gT];rw[Gz] at this;exact this
  have o4:Off [] w1 W4:=by rw[←gT];exact O12.out.alloc _
  have ow4:W4.ownsRow w1.heap.size 110 2 (.slice a2 L.length p2) L.length (yX L):=by rw[←gT];exact jo (OW.out.alloc _) O1.out.size
  have hnew:w1.heap.size≤pb∧w1.heap.size≤hb∧hb≠pb∧∀g,(Value.slice a2 L.length p2).ownBlock=some g→w1.heap.size≤g∧g≠pb∧g≠hb:=by
   have z:=O1.out.size;have z2:=O2.out.size;have z3:=HZ.out;refine⟨om,om,om,λg hg=>?_⟩;have h1:=fP OW.out hg;have h2:=aN OW.out hg;exact⟨om,om,om⟩
  have m4:=M.out.keep (w':=W4) λj hj=>o4.block j (M.out.lt hj) sj;have c3:=m4.c3;rw[HN.out] at c3;rw[←gT] at c3;have J8:=jh gT
  have I0:eT W4 ⟨hb,(Value.slice a2 L.length p2).ownBlock,pb,λ_=>none⟩ S (.slice a2 L.length p2) (vU pl 0) L:=by
   refine⟨by rw[HN.out];exact r2,jo ow4 (Nat.zero_le _),rfl,by rw[HN.out];exact r1,λk _ c hc=>(by cases hc),λi _ _=>if_neg (Nat.not_lt_zero _),hnew.2.2.1,⟨λc=>(hnew.2.2.2 _ c).2.2 rfl,λc=>(hnew.2.2.2 _ c).2.1 rfl⟩,λk c _ hc=>(by cases hc),λk k' c _ _ hc=>(by cases hc)⟩
  have B0:Bo [] (bY.bl ⟨hb,(Value.slice a2 L.length p2).ownBlock,pb,λ_=>none⟩ S) w1 W4:=⟨o4,λj hj=>.inr (by
   rcases bY.ak.1 hj with e |e |e |⟨k,_,e⟩
   ·have e':j=hb:=e;omega
   ·exact(hnew.2.2.2 j e).1
   ·have e':j=pb:=e;omega
   ·cases e)⟩
  have HI0:=jh I0;have HB0:=jh B0;clear gT r1 r2 o4 ow4 hnew m4 I0 B0;go_wp2_with fail;rw[J8.out];clear c3 J8
  go_loopg [36] nb (λQ iv wr=>∃(i:Nat) (pv:Nat→Option Nat),Q+i=nb∧iv=.int .i64 i∧Hid (∀k,i≤k→pv k=none)∧Hid (eT wr ⟨hb,(Value.slice a2 L.length p2).ownBlock,pb,pv⟩ S (.slice a2 L.length p2) (vU pl i) L)∧Hid (Bo [] (bY.bl ⟨hb,(Value.slice a2 L.length p2).ownBlock,pb,pv⟩ S) w1 wr))
  case atStart=>exact⟨0,_,rfl,rfl,jh λ_ _=>rfl,HI0,HB0⟩
  case round=>
   clear HI0 HB0;obtain⟨i,pv,hQ,rfl,HP,HA,Ny⟩:=hrel
   by_cases hlt:i<nb
   ·have d1:decide ((i:Int)<nb)=true:=dP om;have d2:decide (i<nb)=true:=dP hlt;obtain⟨j,hj⟩:=nE (i+1);have wj:(i:Int)+1=(j:Int):=om;have bi:(0:Int)≤i∧(i:Int)<nb∧(nb:Int)≤1024∧(0:Int)≤j∧(j:Int)≤1024:=om;have mr:=M.out.keep (w':=wr) λq hq=>Ny.out.off.block q (M.out.lt hq) sj
    have hin:i<(S+63) / 64:=by rw[HN.out];exact hlt
    have pc:=mr.pr.cell hin;have HJ:=jh hj;have HQ:=jh hQ;have tX:=jh hin
    have U1:∀q,q / 64≠i→vU pl j q=vU pl i q:=λq hq=>by
     unfold vU
     by_cases c:q / 64<i
     ·rw[if_pos om,if_pos c]
     ·rw[if_neg om,if_neg c]
    have YA:∀x<64,vU pl j (64*i+x)=pl (64*i+x):=λx hx=>if_pos om
    cases hpv:f.pv i with
    |none=>
     rw[hpv] at pc
     have hz:∀q,vU pl j q=vU pl i q:=λq=>by
      by_cases c:q / 64=i
      ·have:pl q=0:=mr.zz q (by rw[c];exact hin) (by rw[c];exact hpv);unfold vU;rw[this]
       split<;>split<;>rfl
      ·exact U1 q c
     have HZ2:=jh hz;clear mr hin hj hQ hlt U1 YA hz hpv;go_wp2
     go_roundg (nb-j)
     case measure=>have:=HJ.out;have:=HQ.out;omega
     case rel=>exact⟨j,pv,oC HJ.out,rfl,jh λk hk=>HP.out k (oC HJ.out),jh (HA.out.Dy λq _=>HZ2.out q),Ny⟩
    |some c=>
     rw[hpv] at pc;have HR:=jh (mr.bk i hin c hpv);have hn:(⟨hb,(Value.slice a2 L.length p2).ownBlock,pb,pv⟩:bY).pv i=none:=HP.out i (Nat.le_refl _);have G:=HA.out.newC (Ck:=vU pl j) hin hn (.cells (fO 64 (λj=>.int .i64 (pl (64*i+j):Nat))) 231) (Row.lit (n:=64) (f:=λx=>.int .i64 (vU pl j (64*i+x):Nat)) wr (fO 64 (λj=>.int .i64 (pl (64*i+j):Nat))) _ (Nat.le_of_eq (dK _ _).symm) (λx hx=>by rw[YA x hx];simp[fO])) U1;have cz:=(HA.out.hr.alloc (.cells (fO 64 (λj=>.int .i64 (pl (64*i+j):Nat))) 231)).c 3;have cp:=(HA.out.pr.alloc (.cells (fO 64 (λj=>.int .i64 (pl (64*i+j):Nat))) 231)).cell (i:=i) hin;have cf:=(HA.out.pr.alloc (.cells (fO 64 (λj=>.int .i64 (pl (64*i+j):Nat))) 231)).frozen i;rw[HN.out] at cz;have HG:=jh G;have cz2:(wr.alloc (.cells (fO 64 (λj=>.int .i64 (pl (64*i+j):Nat))) 231)).cell? ⟨hb,3,none⟩=some (.slice (some ⟨pb,0,none⟩) nb nb):=cz;clear mr hin hj hQ hlt U1 YA hpv hn G cz
     go_wp2_with (first |(refine gV HR.out rfl _ _ rfl rfl _ Tryz.underlying231 rfl Tryz.AO ?_) |(refine wpList_store_row rfl _ _ _ rfl wr.heap.size (fO 64 (λj=>.int .i64 (pl (64*i+j):Nat))) rfl rfl _ _ (heap_alloc_new _ _) (by rw[dK];exact Tryz.AO) (by rw[dK];rfl) (rH λ_ _=>rfl) ?_;rw[jB]))
     go_roundg (nb-j)
     case measure=>have:=HJ.out;have:=HQ.out;omega
     case rel=>exact⟨j,λq=>if q=i then some wr.heap.size else pv q,oC HJ.out,rfl,jh λk hk=>(if_neg (oC HJ.out)).trans (HP.out k (oC HJ.out)),jh HG.out,jh (Ny.out.trans ⟨((Off.refl _ wr).alloc _).setCell (p:=⟨pb,i,none⟩) (bY.ak.2 (.inr (.inr (.inl rfl)))) _,λq hq=>by
      rcases bY.ak.1 hq with e |e |e |⟨k,hk,e⟩
      ·exact .inl (bY.ak.2 (.inl e))
      ·exact .inl (bY.ak.2 (.inr (.inl e)))
      ·exact .inl (bY.ak.2 (.inr (.inr (.inl e))))
      ·by_cases c2:k=i
       ·have e':(if k=i then some wr.heap.size else pv k)=some q:=e;rw[if_pos c2] at e';exact .inr (Nat.le_of_eq (Option.some.inj e'))
       ·have e':(if k=i then some wr.heap.size else pv k)=some q:=e;rw[if_neg c2] at e'
        exact .inl (bY.ak.2 (.inr (.inr (.inr ⟨k,hk,e'⟩))))⟩)⟩
   ·have d1:decide ((i:Int)<nb)=false:=dF om;have d2:decide (i<nb)=false:=dF hlt;obtain rfl:i=nb:=om;clear hlt;go_wp2;go_ret;have e:∀q,q / 64<(S+63) / 64→vU pl i q=pl q:=λq hq=>if_pos (by rw[HN.out] at hq;exact hq);exact⟨⟨hb,(Value.slice a2 L.length p2).ownBlock,pb,pv⟩,rfl,⟨_,_,HA.out,PO.out.1.Dy λq hq=>e q om,PO.out.2⟩,Ny.out⟩
end
section
variable {w:World} {b:Nat} {f:bY} {S:Nat} {L:List En}
theorem ME (h:rz w b f S L) (hS:S≤65536):
  Calls Tryz.prog 45 #[.pointer (some ⟨b,0,none⟩)] w λe w'=>∃b' f',e=.returned (.pointer (some ⟨b',0,none⟩))∧rz w' b' f' S L∧Bo [] (b'::f'.bl S) w w':=by
 have HV:=jh (mG h);have vF:w.drew.cell? ⟨b,0,none⟩=some (.int .i64 S)∧w.drew.cell? ⟨b,1,none⟩=some (.pointer (some ⟨f.h,0,none⟩)):=⟨h.c0,h.c1⟩;have HS:=vF;have HC:=jh (Mg (h.q.keep (w':=w.drew) λ_ _=>rfl) hS);have H:=jh h;clear h vF;go_in;go_wp2_with fail;apply mO HV;rintro e w1 ⟨rfl,rfl⟩;go_wp2;refine aj (λw'=>w'.cell? ⟨b,0,none⟩=some (.int .i64 S)∧w'.cell? ⟨b,1,none⟩=some (.pointer (some ⟨f.h,0,none⟩))) (by kernel_rfl) ?_;refine tC 0 ?_;refine tC 1 ?_;refine tC 2 ?_;refine tC 3 ?_;refine tC 4 ?_;refine tC 5 ?_;refine tC 6 ?_;refine tC 7 ?_
 try simp only[sD]
 refine rC 8 λK hK=>?_;go_simp;apply mO HC;rintro e W1 ⟨f',rfl,q,bo⟩;dsimp only
 have o1:Off [] w1 W1:=(Off.refl _ _).drew.trans bo.off λj hj=>by cases hj
 have h1:=H.out.keep (w':=W1) λj hj=>o1.block j (H.out.lt j hj) sj;refine hK.out _ _ ⟨h1.c0,h1.c1⟩ (λHS=>?_);have Q:=jh q;have BO:=jh (show Bo [] (f'.bl S) w1 W1 from⟨o1,bo.fQ⟩);clear hK HC q bo o1 h1;refine tC 9 ?_
 try simp only[sD]
 refine rC 10 λK hK=>?_;go_simp;have o4:Off [] w1 (W1.alloc (.cells #[.int .i64 S,.pointer (some ⟨f'.h,0,none⟩)] 170)):=BO.out.off.alloc _;have m4:=H.out.keep λj hj=>o4.block j (H.out.lt j hj) sj;refine hK.out _ _ ⟨m4.c0,m4.c1⟩ (λHS=>?_);clear hK o4 m4;refine tC 11 ?_
 try simp only[sD]
 refine dD ⟨rfl,?_⟩;clear HS;go_wp2;go_ret;have r:=Row.lit (n:=2) (f:=λi=>(#[Value.int .i64 S,.pointer (some ⟨f'.h,0,none⟩)]:Array Value).getD i undef) W1 #[.int .i64 S,.pointer (some ⟨f'.h,0,none⟩)] 170 (Nat.le_refl _) lC;refine⟨W1.heap.size,f',rfl,⟨r,Q.out.keep λj hj=>Below.heap_alloc _ _ _ (Q.out.lt j hj),λc=>Nat.lt_irrefl _ (Q.out.lt _ c)⟩,⟨BO.out.off.alloc _,λj hj=>?_⟩⟩
 rcases List.mem_cons.1 hj with rfl |hj
 ·exact .inr BO.out.off.size
 ·exact BO.out.fQ j hj
end
end Go.Proofs.YtpaeogglppampaaGreatDoor
