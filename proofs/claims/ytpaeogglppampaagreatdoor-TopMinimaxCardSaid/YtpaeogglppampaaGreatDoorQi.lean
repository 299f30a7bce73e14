/- Lemmas of the proof. Conditions: as each one states. -/
import Derived.Test.YtpaeogglppampaaGreatDoorQa
import Derived.Test.YtpaeogglppampaaGreatDoorRows
import Derived.WalkKit
import Derived.WalkSpells
import Derived.WalkLawsBesides
import Derived.Deep.OwnRows
import Derived.Maps.AppendAt
import Derived.Laws.OwnMore
import Derived.OwnWalk
import Derived.BigQuiet
import Derived.Deep.QuietTactic
set_option maxRecDepth 100000
set_option maxHeartbeats 16000000
namespace Go.Proofs.YtpaeogglppampaaGreatDoor
open Go.RowKit
def nth (l:List Int) (i:Nat):Int:=l.getD i 0
theorem Qi {l:List Int} {i:Nat} (h:i<l.length):nth l i=l[i]:=by simp[nth,List.getD,h]
theorem add_block (a:Addr) (i:Nat):(a.add i).block=a.block:=by unfold Addr.add;split<;>rfl
theorem add_zero (a:Addr):a.add 0=a:=by unfold Addr.add;rw[if_pos rfl]
theorem kV (b o i:Nat):(⟨b,o,none⟩:Addr).add i=⟨b,o+i,none⟩:=by unfold Addr.add;split<;>simp_all
theorem add_add (a:Addr) (i j:Nat):(a.add i).add j=a.add (i+j):=by
 unfold Addr.add
 by_cases h:i=0
 ·subst h;simp
 ·by_cases h2:j=0
  ·subst h2;simp
  ·rw[if_neg h,if_neg h2,if_neg om];simp[Nat.add_assoc]
structure ET (t e:TypeId) (size bytes:Nat):Prop where
 ht:Tryz.prog.underlying t=some (.slice e)
 info:∃i z,Tryz.prog.info? e=some i∧i.zero=some z∧i.size=size∧i.bytes=bytes∧z.cells.size=size
 pos:0<size
theorem ET.of {t e:TypeId} {z:Value} {size bytes:Nat} (ht:Tryz.prog.underlying t=some (.slice e)) (hinfo:(Tryz.prog.info? e).map (λi=>(i.zero,i.size,i.bytes))=some (some z,size,bytes)) (hz:z.cells.size=size) (hp:0<size):ET t e size bytes:=by
 obtain⟨i,hi,h0,h1,h2⟩:=info_parts hinfo;exact⟨ht,⟨i,z,hi,h0,h1,h2,hz⟩,hp⟩
theorem ET.size {t e:TypeId} {size bytes:Nat} (E:ET t e size bytes) (w:World):(sizeOf e).run Tryz.prog w=.ok size w:=by
 obtain⟨i,z,hi,_,h2,_⟩:=E.info;simp[sizeOf,typeInfo,hi,h2]
structure Rd (t:TypeId) (size:Nat) (w:World) (B:Nat) (v:Value) (n:Nat) (f:Nat→Nat→Value) (A:Nat→Addr):Prop where
 ix:∀i:Nat,i<n→∀w':World,(Instr.indexAt t v (.int .i64 i)).run Tryz.prog w'=.ok (.pointer (some (A i))) w'
 lt:∀i:Nat,i<n→(A i).block<B
 cell:∀i:Nat,i<n→∀j:Nat,j<size→w.cell? ((A i).add j)=some (f i j)
section
variable {t e:TypeId} {size bytes:Nat} {w w':World} {B B':Nat} {v:Value} {n:Nat} {f g:Nat→Nat→Value} {A:Nat→Addr}
theorem Rd.below (h:Rd t size w B v n f A) (hb:Below B w w'):Rd t size w' B v n f A:=
 ⟨h.ix,h.lt,λi hi j hj=>by rw[hb.cell (by rw[add_block];exact h.lt i hi)];exact h.cell i hi j hj⟩
theorem Rd.mono (h:Rd t size w B v n f A) (hb:B≤B'):Rd t size w B' v n f A:=
 ⟨h.ix,λi hi=>Nat.lt_of_lt_of_le (h.lt i hi) hb,h.cell⟩
theorem Rd.nil (A:Nat→Addr):Rd t size w B v 0 f A:=
 ⟨λ_ hi=>absurd hi om,λ_ hi=>absurd hi om,λ_ hi=>absurd hi om⟩
theorem Rd.addr {cap:Nat} {a:Addr} (E:ET t e size bytes) (hb:0<n→a.block<B) (hc:∀i<n,∀j<size,w.cell? (a.add (i*size+j))=some (f i j)):
  Rd t size w B (.slice (some a) n cap) n f (λi=>a.add (i*size)) where
 ix:=λi hi w'=>by
  have h1:(0:Int)≤(i:Int)∧(i:Int)<(n:Int):=om
  have he:Tryz.prog.elem t=e:=by simp[Program.elem,E.ht]
  rw[run_indexAt_slice w' t a n cap .i64 i (by rw[E.ht,he]),if_pos h1,he,E.size];simp[Result.andThen]
 lt:=λi hi=>by rw[add_block];exact hb om
 cell:=λi hi j hj=>by rw[add_add];exact hc i hi j hj
theorem Rd.view {cap:Nat} {a:Option Addr} (E:ET t e size bytes) (h:Rd t size w B (.slice a n cap) n f A) (hn:0<n):
  ∃ad:Addr,a=some ad∧ad.block<B∧(∀i<n,A i=ad.add (i*size))∧∀i<n,∀j<size,w.cell? (ad.add (i*size+j))=some (f i j):=by
 have he:Tryz.prog.elem t=e:=by simp[Program.elem,E.ht]
 cases a with
 |none=>
  exfalso;have h1:=h.ix 0 hn w
  have h2:(Instr.indexAt t (.slice none n cap) (.int .i64 (0:Nat))).run Tryz.prog w=(boundsPanic .i64 (0:Nat) 0 .index).run Tryz.prog w:=by
   simp[Instr.indexAt,run_underlying E.ht,asIntOf]
  rw[h2] at h1;obtain⟨s,w2,hrun⟩:=run_boundsPanic (α:=Value) (P:=Tryz.prog) (w:=w) .i64 ((0:Nat):Int) 0 .index;rw[hrun] at h1;cases h1
 |some ad=>
  have hA:∀i<n,A i=ad.add (i*size):=λi hi=>by
   have h1:=h.ix i hi w;rw[run_indexAt_slice w t ad n cap .i64 i (by rw[E.ht,he]),if_pos om,he,E.size] at h1;simp[Result.andThen] at h1;exact h1.symm
  refine⟨ad,rfl,?_,hA,λi hi j hj=>by rw[←add_add,←hA i hi];exact h.cell i hi j hj⟩;have h3:=h.lt 0 hn;rw[hA 0 hn,add_block] at h3;exact h3
end
def nums (k:IntKind) (l:List Int) (i:Nat) (_:Nat):Value:=.int k (nth l i)
def flat (f:Nat→Nat→Value) (n size:Nat):List Value:=(List.range n).flatMap λi=>(List.range size).map (f i)
theorem fD (f:Nat→Nat→Value) (n size:Nat):(flat f n size).length=n*size:=by
 induction n with
 |zero=>simp[flat]
 |succ n ih=>
  have:flat f (n+1) size=flat f n size++(List.range size).map (f n):=by simp[flat,List.range_succ,List.flatMap_append]
  rw[this,List.length_append,ih,List.length_map,List.length_range,Nat.succ_mul]
theorem jJ (f:Nat→Nat→Value) (n size:Nat):flat f (n+1) size=flat f n size++(List.range size).map (f n):=by simp[flat,List.range_succ,List.flatMap_append]
theorem iy {f:Nat→Nat→Value} {n size i j:Nat} (hi:i<n) (hj:j<size):(flat f n size)[i*size+j]?=some (f i j):=by
 induction n with
 |zero=>omega
 |succ n ih=>
  rw[jJ]
  by_cases h:i<n
  ·have h1:=ih h;rw[List.getElem?_append_left (List.getElem?_eq_some_iff.1 h1).1];exact h1
  ·obtain rfl:i=n:=om;rw[List.getElem?_append_right (by rw[fD];omega),fD];have:i*size+j-i*size=j:=om;rw[this];simp[hj]
theorem GR {f g:Nat→Nat→Value} {n size:Nat} (h:∀i<n,∀j<size,f i j=g i j):flat f n size=flat g n size:=by
 induction n with
 |zero=>rfl
 |succ n ih=>
  rw[jJ,jJ,ih λi hi=>h i om]
  congr 1
  exact List.map_congr_left λj hj=>h n om j (List.mem_range.1 hj)
theorem RF (f:Nat→Nat→Value) (n:Nat):flat f n 1=(List.range n).map λi=>f i 0:=by
 induction n with
 |zero=>rfl
 |succ n ih=>rw[jJ,ih,List.range_succ (n:=n),List.map_append];rfl
theorem Mr (k:IntKind) (l:List Int):flat (nums k l) l.length 1=l.map (Value.int k):=by
 rw[RF];apply List.ext_getElem
 ·simp
 ·intro i h1 h2;simp at h1;simp[nums,nth,h1]
theorem ko {n size q:Nat} (hq:q<n*size):∃i j,i<n∧j<size∧q=i*size+j:=by
 have hp:0<size:=Nat.pos_of_ne_zero λh=>by rw[h] at hq;omega
 exact⟨q / size,q%size,by rw[Nat.div_lt_iff_lt_mul hp];exact hq,Nat.mod_lt _ hp,by rw[Nat.mul_comm];exact(Nat.div_add_mod q size).symm⟩
theorem Rd.own {t e:TypeId} {size bytes:Nat} {w:World} {base n:Nat} {v:Value} {f:Nat→Nat→Value} (E:ET t e size bytes) (h:w.ownsRow base e size v n (flat f n size)):
  ∃a cap A,v=.slice a n cap∧Rd t size w w.heap.size v n f A:=by
 rcases h.2 with⟨rfl,h0⟩ |⟨g,cap,cur,rfl,hb,hg,hn,hm,hs,ht⟩
 ·subst h0;exact⟨_,_,λ_=>⟨0,0,none⟩,rfl,Rd.nil _⟩
 ·refine⟨_,_,_,rfl,Rd.addr E (λ_=>(Array.getElem?_eq_some_iff.1 hg).1) (λi hi j hj=>?_)⟩;exact h.cells (g:=g) rfl (i*size+j) (f i j) (iy hi hj)
theorem iR {w w1:World} {o:Obj} {row:Option Nat} (h:(w.alloc o).grownBy w1 row):w.grownBy w1 row:=
 ⟨h.os,h.tape,h.output,by have:=h.size;simp at this;omega,λk hk hne=>(h.block k (by simp;omega) hne).trans (Below.heap_alloc w o k hk)⟩
def Moved (w:World) (v:Value) (g:Nat):Prop:=v.ownBlock=some g∨w.heap.size≤g
theorem push {ops:Array Oper} {rest:List Oper} {o:Oper} {a:Act} {Q:Exit→Act→World→Prop} {w0:World} {t e:TypeId} {size bytes:Nat} (E:ET t e size bytes) (hgd:o.guard=none) (s x:Operand)
  (ho:o.op=.call { callee:=.builtin .append,args:=#[s,x],argTypes:=#[t,t] }) (base:Nat) (v:Value) (n:Nat) (xs:List Value) (hown:w0.ownsRow base e size v n xs) (hs:a.eval s=v)
  (news:Array Value) (N:Nat) (hx:a.eval x=.slice (some ⟨N,0,none⟩) 1 1) (hN:w0.heap.size=N) (hsz:news.size=size) (h1:∀u∈news.toList,u.oneCell'=true)
  (hn:(n+1)*bytes≤140737488355328) (hm:n+1≤9223372036854775807) (hbase:base≤w0.heap.size)
  (h:∀(g cap:Nat) (w1:World),w1.ownsRow base e size (.slice (some ⟨g,0,none⟩) (n+1:Nat) cap) (n+1) (xs++news.toList)→w0.grownBy w1 v.ownBlock→Moved w0 v g→
   wpList Tryz.prog ops Q rest (a.put o.dst (.slice (some ⟨g,0,none⟩) (n+1:Nat) cap)) w1):wpList Tryz.prog ops Q (o::rest) a (w0.alloc (.cells news e)):=by
 subst hN;obtain⟨i,z,hi,hz,h2,h3,h4⟩:=E.info;refine wpList_append_own_at _ hgd s x t ho base e i z size bytes E.ht hi hz h2 h3 h4 E.pos v n xs hs (hown.alloc _) ⟨w0.heap.size,0,none⟩ 1 1 news.toList hx (by simp[hsz]) ?_ h1 (by unfold maxLen;omega) hn (by simp;omega) ?_
 ·intro j u hu;rw[kV,Nat.zero_add];have:=heap_alloc_new w0 (.cells news e);simp only[World.cell?,this,Option.isSome_none,Bool.false_eq_true,if_false];rw[Array.getElem?_toList] at hu;exact hu
 ·intro v' w1 hown' hg _ hv
  rcases hown'.2 with⟨_,h0⟩ |⟨g,cap,cur,rfl,r⟩
  ·omega
  ·refine h g cap w1 hown' (iR hg) ?_
   rcases hv with hv |hv
   ·exact .inl hv.symm
   ·right
    simp only[Value.ownBlock,Option.some.injEq,World.size_alloc] at hv;omega
theorem run_append_nothing {t e:TypeId} {size bytes:Nat} (E:ET t e size bytes) (ty:TypeId) (ad:Addr) (ax:Option Addr) (c:Nat) (w:World):
  (Builtin.append_ #[t,t] ty #[.slice (some ad) 0 0,.slice ax 0 c]).run Tryz.prog w=.ok (.slice (some ad) 0 0) w:=by
 obtain⟨i,z,hi,hz,h2,h3,h4⟩:=E.info
 cases ax with
 |none=>simp[Builtin.append_,run_underlying E.ht,sizeOf,typeInfo,hi,Builtin.lenOf,Builtin.firstCells,storeCells]
 |some a=>simp[Builtin.append_,run_underlying E.ht,sizeOf,typeInfo,hi,Builtin.lenOf,Builtin.firstCells,loadCells,loadCellsFrom,storeCells]
theorem Ac {ops:Array Oper} {rest:List Oper} {o:Oper} {a:Act} {Q:Exit→Act→World→Prop} {w0:World} {t e:TypeId} {size bytes:Nat} {f:Nat→Nat→Value} (E:ET t e size bytes) (hgd:o.guard=none) (s x:Operand)
  (ho:o.op=.call { callee:=.builtin .append,args:=#[s,x],argTypes:=#[t,t] }) {ax:Option Addr} {m c B:Nat} {A:Nat→Addr} (hS:Rd t size w0 B (.slice ax m c) m f A) (hB:B≤w0.heap.size) (hf:∀i<m,∀j<size,(f i j).oneCell'=true)
  (N:Nat) (hs:a.eval s=.slice (some ⟨N,0,none⟩) 0 0) (hN:w0.heap.size=N) (hx:a.eval x=.slice ax m c) (h63:m≤9223372036854775807) (hbytes:m*bytes≤140737488355328)
  (h:∀(g cap:Nat) (w1:World),w0.heap.size≤g→w1.ownsRow w0.heap.size e size (.slice (some ⟨g,0,none⟩) m cap) m (flat f m size)→Below w0.heap.size w0 w1→
   wpList Tryz.prog ops Q rest (a.put o.dst (.slice (some ⟨g,0,none⟩) m cap)) w1):wpList Tryz.prog ops Q (o::rest) a (w0.alloc (.cells #[] e)):=by
 subst hN
 have hown:(w0.alloc (.cells #[] e)).ownsRow w0.heap.size e size (.slice (some ⟨w0.heap.size,0,none⟩) 0 0) 0 (#[]:Array Value).toList:=
  World.ownsRow_lit w0 #[] 0 (Nat.le_refl _) (Nat.zero_le _) sj
 by_cases hm:m=0
 ·subst hm;refine wpList_plain hgd λK hK=>?_;have hr:=run_append_nothing E o.type ⟨w0.heap.size,0,none⟩ ax c (w0.alloc (.cells #[] e));unfold Oper.wp execOp;simp only[ho,resolve,invoke,builtin,Sem.run_bind,Sem.run_pure,Result.andThen_ok,List.map_toArray,List.map_cons,List.map_nil,hs,hx,hr];exact hK _ _ (h w0.heap.size 0 _ (Nat.le_refl _) hown ((Below.refl _ _).alloc (Nat.le_refl _) _))
 ·obtain⟨i,z,hi,hz,h2,h3,h4⟩:=E.info;obtain⟨ad,rfl,hlt,_,hce⟩:=hS.view E om;refine wpList_append_own_at _ hgd s x t ho w0.heap.size e i z size bytes E.ht hi hz h2 h3 h4 E.pos _ 0 _ hs hown ad m c (flat f m size) hx (fD _ _ _) ?_ ?_ (by unfold maxLen;omega) (by rw[Nat.zero_add];exact hbytes) sj ?_
  ·intro q u hu;have hq:=(List.getElem?_eq_some_iff.1 hu).1;rw[fD] at hq;obtain⟨x,y,hx,hy,rfl⟩:=ko hq;rw[iy hx hy] at hu;cases hu;rw[World.cell?_of_block (Below.heap_alloc w0 _ _ (by rw[add_block];omega))];exact hce x hx y hy
  ·intro u hu;obtain⟨q,hq,rfl⟩:=List.mem_iff_getElem.1 hu;rw[fD] at hq;obtain⟨x,y,hx,hy,rfl⟩:=ko hq;have:=iy (f:=f) hx hy;rw[List.getElem?_eq_getElem (by rw[fD];exact hq)] at this;rw[Option.some.inj this];exact hf x hx y hy
  ·intro v' w1 hown' hg _ _;simp only[Nat.zero_add,List.nil_append] at hown'
   obtain⟨g,cap,rfl⟩:∃g cap,v'=.slice (some ⟨g,0,none⟩) m cap:=by
    rcases hown'.2 with⟨_,h0⟩ |⟨g,cap,cur,e1,_⟩
    ·omega
    ·exact⟨g,cap,e1⟩
   have hgl:=(hown'.lt g rfl).1;refine h g cap w1 hgl hown' ?_;have h5:=(Below.refl w0.heap.size w0).alloc (Nat.le_refl _) (.cells #[] e);exact h5.grown hg sj (λj hj=>by simp only[Value.ownBlock,Option.some.injEq] at hj;omega)
abbrev Sl (t:TypeId) (k:IntKind) (w:World) (B:Nat) (v:Value) (l:List Int) (A:Nat→Addr):Prop:=Rd t 1 w B v l.length (nums k l) A
theorem Sl.at {t:TypeId} {k:IntKind} {w:World} {B:Nat} {v:Value} {l:List Int} {A:Nat→Addr} (h:Sl t k w B v l A) {i:Nat} (hi:i<l.length):w.cell? (A i)=some (.int k (nth l i)):=by
 have:=h.cell i hi 0 om;rwa [add_zero] at this
theorem Tryz.ng:(Tryz.prog.info? 3).map (λi=>(i.zero,i.size,i.bytes))=some (some (.int .i64 0),1,8):=by kernel_rfl
theorem Cw:ET 62 3 1 8:=ET.of Tryz.underlying62 Tryz.ng rfl (by decide)
theorem Tryz.acM:(Tryz.prog.info? 242).map (λi=>(i.zero,i.size,i.bytes))=some (some (.agg #[.int .i64 0,.int .i64 0,.int .i64 0]),3,24):=by kernel_rfl
theorem etE:ET 198 242 3 24:=ET.of Tryz.underlying198 Tryz.acM rfl (by decide)
end Go.Proofs.YtpaeogglppampaaGreatDoor
