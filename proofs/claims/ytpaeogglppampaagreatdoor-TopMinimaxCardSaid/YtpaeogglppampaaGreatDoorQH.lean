/- Lemmas of the proof. Conditions: as each one states. -/
import Derived.Test.YtpaeogglppampaaGreatDoorQm
import Derived.Test.YtpaeogglppampaaGreatDoorQx
set_option maxRecDepth 100000
set_option maxHeartbeats 16000000
namespace Go.Proofs.YtpaeogglppampaaGreatDoor
open Go.RowKit
section
open Go.ChangeShapes Go.WideShapes Go.ChangeAt Go.RowKit
theorem QF {α:Type} {l:List α} (h:l.length=4):∃a b c d,l=[a,b,c,d]:=by
 match l,h with
 |[a,b,c,d],_=>exact⟨a,b,c,d,rfl⟩
theorem acF {α:Type} {l:List α} (h:l.length=5):∃a b c d e,l=[a,b,c,d,e]:=by
 match l,h with
 |[a,b,c,d,e],_=>exact⟨a,b,c,d,e,rfl⟩
theorem acG {α:Type} {l:List α} (h:l.length=2):∃a b,l=[a,b]:=by
 match l,h with
 |[a,b],_=>exact⟨a,b,rfl⟩
theorem FQ {len:Nat} {Q:Nat→Sp→Prop} (h:∀i<len,∃x,Q i x):∃L:List Sp,L.length=len∧∀i<len,Q i (L.getD i zy):=by
 induction len with
 |zero=>exact⟨[],rfl,λi hi=>absurd hi om⟩
 |succ n ih=>
  obtain⟨E,hl,hE⟩:=ih λi hi=>h i om;obtain⟨x,hq⟩:=h n om;refine⟨E++[x],by simp[hl],λi hi=>?_⟩
  by_cases hn:i=n
  ·subst hn
   have e:(E++[x]).getD i zy=x:=by rw[←hl];simp[List.getD]
   rw[e];exact hq
  ·have e:(E++[x]).getD i zy=E.getD i zy:=by
    rw[List.getD_eq_getElem?_getD,List.getD_eq_getElem?_getD,List.getElem?_append_left om]
   rw[e];exact hE i om
theorem Tryz.infoSt:(Tryz.prog.info? 35).map (λi=>(i.zero,i.size,i.bytes))=some (some (.agg #[.bool false,.int .u64 0,.int .u64 0,.int .i64 0,.int .i64 0]),5,40):=by kernel_rfl
theorem adW:ET 24 35 5 40:=ET.of Tryz.underlying24 Tryz.infoSt rfl (by decide)
section
variable {H:Type} {enc:TypeId × Value→H} {w:World} {base:Nat} {spare:Nat→Bool} {held:Bool}
theorem SE {v:Value} {r:Reach} {b0:Nat} (hv:Value.okWide Tryz.prog w r b0 23 v) {d:DataW H} {p:List MemPlace} (h:DataW.Trod enc Tryz.prog w base spare held 23 v d p):
  ∃W E V D:Int,v=.agg #[.int .i64 W,.int .i64 E,.int .i64 V,.int .i64 D]∧dR W:=by
 obtain⟨cs,rfl,hsz⟩:∃cs,v=.agg cs∧cs.size=Tryz.prog.cellsOf 23:=by
  simp only[Value.okWide,Tryz.underlying23] at hv;obtain⟨cs,h1,h2,_⟩:=hv;exact⟨cs,h1,h2⟩
 rw[show Tryz.prog.cellsOf 23=4 by kernel_rfl] at hsz;obtain⟨fuel,hf⟩:=h;obtain⟨ys,n',hn',hy,hlen,hyl,hg⟩:=DataW.trod_struct Tryz.underlying23 hf;obtain⟨l⟩:=cs;obtain⟨c0,c1,c2,c3,rfl⟩:=QF hsz;obtain⟨y0,y1,y2,y3,rfl⟩:=QF hyl;have g0:DataW.trod enc Tryz.prog w base spare held n' 2 [c0]=some y0:=hg 0 _ rfl;have g1:DataW.trod enc Tryz.prog w base spare held n' 3 [c1]=some y1:=hg 1 _ rfl;have g2:DataW.trod enc Tryz.prog w base spare held n' 3 [c2]=some y2:=hg 2 _ rfl;have g3:DataW.trod enc Tryz.prog w base spare held n' 3 [c3]=some y3:=hg 3 _ rfl;obtain⟨x0,e0,_,hwf⟩:=DataW.trod_int Tryz.underlying2 g0;obtain⟨x1,e1,_,_⟩:=DataW.trod_int Tryz.underlying3 g1;obtain⟨x2,e2,_,_⟩:=DataW.trod_int Tryz.underlying3 g2;obtain⟨x3,e3,_,_⟩:=DataW.trod_int Tryz.underlying3 g3;simp only[List.cons.injEq,and_true] at e0 e1 e2 e3;refine⟨x0,x1,x2,x3,by rw[e0,e1,e2,e3],?_⟩;have:=bounds_i64 hwf;unfold dR;omega
theorem Hu {v:Value} {d:DataW H} {p:List MemPlace} {r:Reach} {b0:Nat} (hv:Value.okWide Tryz.prog w r b0 24 v) (h:DataW.Trod enc Tryz.prog w base spare held 24 v d p):
  ∃(a:Option Addr) (cap:Nat) (L:List Sp) (A:Nat→Addr),v=.slice a L.length cap∧SS w w.heap.size (.slice a L.length cap) L A∧L.length≤9223372036854775807∧aat L:=by
 obtain⟨a,len,cap,rfl⟩:=okWide_slice Tryz.underlying24 hv;obtain⟨fuel,hf⟩:=h
 rcases Go.Deep.open_slice Tryz.underlying24 hf with⟨h0,_⟩ |⟨a',len',cap',m,n,D,Pl,hcs,_,hl,hm,hmm,_,hi⟩
 ·simp only[Value.cells,List.cons.injEq,Value.slice.injEq,and_true] at h0;obtain⟨rfl,rfl,rfl⟩:=h0;exact⟨none,0,[],λ_=>⟨0,0,none⟩,rfl,Rd.nil _,by decide,λi hi=>absurd hi sj⟩
 ·simp only[Value.cells,List.cons.injEq,Value.slice.injEq,and_true] at hcs;obtain⟨rfl,rfl,rfl⟩:=hcs
  have hC:Tryz.prog.cellsOf 35=5:=by kernel_rfl
  have hle:len≤m:=by rw[hmm];split<;>omega
  have cells:∀i<len,∃x:Sp,(w.cell? (a'.add (i*5))=some (.bool x.add)∧w.cell? (a'.add (i*5+1))=some (.int .u64 x.r.u)∧w.cell? (a'.add (i*5+2))=some (.int .u64 x.r.v)∧w.cell? (a'.add (i*5+3))=some (.int .i64 x.r.w)∧w.cell? (a'.add (i*5+4))=some (.int .i64 x.r.t))∧
    ((Lit.int .u64 x.r.u).wf=true∧(Lit.int .u64 x.r.v).wf=true∧dR x.r.w∧dR x.r.t):=by
   intro i hi';obtain⟨cs',hc,ht'⟩:=hi i om;rw[hC] at hc;obtain⟨ys,n',hn',hy,hlen,hyl,hg⟩:=DataW.trod_struct Tryz.underlying35 ht';obtain⟨_,hcl,hat⟩:=World.cells?_some hc;obtain⟨c0,c1,c2,c3,c4,rfl⟩:=acF hcl;obtain⟨y0,y1,rfl⟩:=acG hyl;have g0:DataW.trod enc Tryz.prog w base spare held n' 4 [c0]=some y0:=hg 0 _ rfl;have g1:DataW.trod enc Tryz.prog w base spare held n' 33 [c1,c2,c3,c4]=some y1:=hg 1 _ rfl;obtain⟨zs,n'',aou,hz,_,hzl,hgz⟩:=DataW.trod_struct Tryz.underlying33 g1;obtain⟨z0,z1,z2,z3,rfl⟩:=QF hzl;have k0:DataW.trod enc Tryz.prog w base spare held n'' 25 [c1]=some z0:=hgz 0 _ rfl;have k1:DataW.trod enc Tryz.prog w base spare held n'' 25 [c2]=some z1:=hgz 1 _ rfl;have k2:DataW.trod enc Tryz.prog w base spare held n'' 2 [c3]=some z2:=hgz 2 _ rfl;have k3:DataW.trod enc Tryz.prog w base spare held n'' 2 [c4]=some z3:=hgz 3 _ rfl;obtain⟨b,eb,_⟩:=DataW.trod_bool Tryz.underlying4 g0;obtain⟨u,eu,_,wu⟩:=DataW.trod_int Tryz.underlying25 k0;obtain⟨v,ev,_,wv⟩:=DataW.trod_int Tryz.underlying25 k1;obtain⟨x,ex,_,wx⟩:=DataW.trod_int Tryz.underlying2 k2;obtain⟨t,et,_,wt⟩:=DataW.trod_int Tryz.underlying2 k3;simp only[List.cons.injEq,and_true] at eb eu ev ex et;subst eb eu ev ex et;have bx:=bounds_i64 wx;have bt:=bounds_i64 wt;refine⟨⟨b,⟨u,v,t,x⟩⟩,⟨?_,?_,?_,?_,?_⟩,wu,wv,by unfold dR;simp only;omega,by unfold dR;simp only;omega⟩
   ·have:=hat 0 om;rw[add_zero] at this;exact this
   ·have:=hat 1 om;rw[Go.Deep.add_add] at this;exact this
   ·have:=hat 2 om;rw[Go.Deep.add_add] at this;exact this
   ·have:=hat 3 om;rw[Go.Deep.add_add] at this;exact this
   ·have:=hat 4 om;rw[Go.Deep.add_add] at this;exact this
  obtain⟨L,hLl,hL⟩:=FQ cells;subst hLl;have hmax:cap≤9223372036854775807:=hm;refine⟨some a',cap,L,λi=>a'.add (i*5),rfl,Rd.addr adW (λh0=>World.block_lt_of_cell? w a' (u:=.bool (L.getD 0 zy).add) ?_) λi hi j hj=>?_,om,λi hi=>(hL i hi).2⟩
  ·have:=(hL 0 h0).1.1
   rwa [Nat.zero_mul,add_zero] at this
  ·match j,hj with
   |0,_=>exact(hL i hi).1.1
   |1,_=>exact(hL i hi).1.2.1
   |2,_=>exact(hL i hi).1.2.2.1
   |3,_=>exact(hL i hi).1.2.2.2.1
   |4,_=>exact(hL i hi).1.2.2.2.2
end
end
end Go.Proofs.YtpaeogglppampaaGreatDoor
