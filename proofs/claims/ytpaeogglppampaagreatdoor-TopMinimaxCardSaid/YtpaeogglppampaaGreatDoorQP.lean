/- Lemmas of the proof. Conditions: as each one states. -/
import Derived.Test.YtpaeogglppampaaGreatDoorQs
import Derived.Test.YtpaeogglppampaaGreatDoorQO
set_option maxRecDepth 100000
set_option maxHeartbeats 16000000
namespace Go.Proofs.YtpaeogglppampaaGreatDoor
open Go.RowKit
section
open Go.Shelf Go.Maps
open Go.Sort hiding Below
theorem SH {w:World} {b:Nat} {t:TypeId} {u:Value} (h:Boxed w b t u) {a:Addr} (hne:b≠a.block) (v:Value):Boxed (w.setCell a v) b t u:=(Below.heap_setCell _ _ _ _ hne).trans h
theorem jy {α:Type} [Inhabited α] (enc:α→Value) (w:World) (blk off n:Nat) (dk:Array α) (os:Array Obj) (hb:blk<w.heap.size):Below blk w (sortWorld enc w blk off n dk os):=by
 unfold sortWorld;have hs:(putRow enc (Sort.ahead w n) blk off dk).heap.size=w.heap.size:=size_putRow _ _ _ _ _;refine⟨rfl,rfl,rfl,?_,λk hk=>?_⟩
 ·show w.heap.size≤((putRow enc (Sort.ahead w n) blk off dk).heap++os).size;rw[Array.size_append];omega
 ·refine(Go.Sort.heap_grow_old _ os (by rw[hs];omega)).trans ?_;show(w.heap.modify blk _)[k]?=w.heap[k]?;rw[Array.getElem?_modify,if_neg om]
theorem vI {α:Type} [Inhabited α] (enc:α→Value) (w:World) (blk n:Nat) (d dk:Array α) (os:Array Obj) (hb:blk<w.heap.size) (hH:Holds enc w blk 0 d) (hs:dk.size=d.size):Holds enc (sortWorld enc w blk 0 n dk os) blk 0 dk:=by
 unfold sortWorld;have hH':Holds enc (Sort.ahead w n) blk 0 d:=hH;exact holds_grow enc _ os blk 0 _ (by rw[size_putRow];exact hb) (holds_putRow enc (Sort.ahead w n) blk 0 d dk hH' hs)
theorem qh {α:Type} [Inhabited α] (enc:α→Value) (w:World) (blk n m:Nat) (f:Nat→Value) (d dk:Array α) (os:Array Obj) (hrow:Row w blk m f) (hH:Holds enc w blk 0 d) (hs:dk.size=d.size) (hm:dk.size=m):Row (sortWorld enc w blk 0 n dk os) blk m (λi=>enc dk[i]!):=by
 have hH2:=vI enc w blk n d dk os hrow.lt hH hs;obtain⟨c,t,h1,_⟩:=id hrow
 have h2:(sortWorld enc w blk 0 n dk os).heap[blk]?=some (.cells (putCells enc 0 dk c) t (0,0)):=by
  unfold sortWorld;refine(Go.Sort.heap_grow_old _ os (by rw[size_putRow];exact hrow.lt)).trans ?_;show(w.heap.modify blk _)[blk]?=_;rw[Array.getElem?_modify,if_pos rfl,h1]
  rfl
 refine⟨_,t,h2,λi hi=>?_⟩;have h3:=(hH2 i om).1;simp only[World.cell?,h2,Option.isSome_none,Bool.false_eq_true,if_false,Nat.zero_add] at h3;exact h3
theorem EA {m j:Nat} [Inhabited (Fin m)] (hj:j<m):((List.finRange m).toArray)[j]! =(⟨j,hj⟩:Fin m):=by
 rw[getElem!_pos _ j (by simpa using hj)];simp
theorem yI (n:Nat):(List.finRange n).map (·.val)=List.range n:=List.ext_getElem sj sj
theorem F5 (n:Nat):(List.finRange n).Nodup:=by
 refine List.pairwise_iff_getElem.2 λi j hi hj hij=>?_;simp only[List.getElem_finRange];intro h;have:=congrArg Fin.val h;simp at this;omega
theorem KN (E:List Ed) (bl B blk:Nat) (a:Option Addr) (cap:Nat) (A:Nat→Addr) (w:World) (hE:ES w B (.slice a E.length cap) E A) (hB:B≤blk) (hlt:bl<blk) (hb:w.cell? ⟨bl,0,none⟩=some (.slice a E.length cap)) (hrow:Row w blk E.length (λi=>.int .i64 (i:Nat))) (hm:E.length≤65536):
  Calls Tryz.prog 190 #[.slice (some ⟨blk,0,none⟩) E.length E.length,.func (.func 191) #[] #[.pointer (some ⟨bl,0,none⟩)]] w λe w'=>e=.returned (.tuple #[])∧∃o,bO E o∧Row w' blk E.length (λi=>.int .i64 (o.getD i 0:Nat))∧Below blk w w':=by
 rcases Nat.eq_zero_or_pos E.length with h0 |hp
 ·have hnil:E=[]:=List.eq_nil_of_length_eq_zero h0;subst hnil;refine(AnyF.slices_SortFunc_none { Tryz.sortFuncA with } (some ⟨blk,0,none⟩) 0 _ w).mono ?_;rintro e w' ⟨rfl,rfl⟩;exact⟨rfl,[],⟨sj,List.Pairwise.nil⟩,hrow.congr λi hi=>by simp at hi,Below.refl _ _⟩
 ·haveI:Inhabited (Fin E.length):=⟨⟨0,hp⟩⟩
  have hblk:=hrow.lt
  have hlt2:∀x y:Fin E.length,ltOf (λx y:Fin E.length=>SA E x.val y.val) x y=decide (q9 E x.val y.val):=λx y=>by
   unfold ltOf;rw[Bool.eq_iff_iff];simp only[decide_eq_true_eq];exact aag E x.val y.val
  have hO:SWO (ltOf (λx y:Fin E.length=>SA E x.val y.val)):={
   irrefl:=λx=>by rw[hlt2];exact dF (λh=>uz h h)
   trans:=λx y z h1 h2=>by rw[hlt2] at*;simp at*;exact Lx h1 h2
   ntrans:=λx y z h1 h2=>by
    rw[hlt2] at*;simp only[decide_eq_false_iff_not] at*;unfold q9 at*
    omega }
  have hT:∀x y:Fin E.length,ltOf (λx y:Fin E.length=>SA E x.val y.val) x y=false→ltOf (λx y:Fin E.length=>SA E x.val y.val) y x=false→x=y:=λx y h1 h2=>by
   rw[hlt2] at h1 h2;simp only[decide_eq_false_iff_not] at h1 h2
   by_cases e:x=y
   ·exact e
   ·rcases uy (E:=E) (show x.val≠y.val from λc=>e (Fin.ext c)) with c |c
    ·exact absurd c h1
    ·exact absurd c h2
  have hH:Holds (GY (m:=E.length)) w blk 0 (List.finRange E.length).toArray:=λj hj=>by
   have hj':j<E.length:=by simpa using hj
   rw[EA hj',Nat.zero_add];exact⟨hrow.cell hj',hrow.frozen j⟩
  have hcmp:CmpLays1 Tryz.prog 191 #[.pointer (some ⟨bl,0,none⟩)] (GY (m:=E.length)) (λx y:Fin E.length=>SA E x.val y.val) blk 0 (List.finRange E.length).toArray.size w:=λk os dk _ x y=>by
   have hbel:=jy (GY (m:=E.length)) w blk 0 k dk os hblk;exact Ws E bl blk a cap A x.val y.val _ ((hbel.cell (p:=⟨bl,0,none⟩) hlt).trans hb) ((hE.mono hB).below hbel) x.isLt y.isLt
  have eg:∀args w,(callFunc 191 args).run Tryz.prog w=.ok (.enter 191 args) w:=enters_of Tryz.func191 (by kernel_rfl) rfl;have hsz:(List.finRange E.length).toArray.size=E.length:=sj;have hcon:=Any.slices_SortFunc_total Tryz.sortFuncA (GY (m:=E.length)) (λ_=>rfl) _ hO 191 #[.pointer (some ⟨bl,0,none⟩)] blk 0 E.length (List.finRange E.length).toArray w eg hcmp hH hblk (by rw[hsz];omega) hT;rw[hsz] at hcon;refine Calls.mono hcon ?_;rintro e w' ⟨rfl,n,os,rfl⟩;generalize hL:((List.finRange E.length).toArray.toList.mergeSort λx y=>!ltOf (λx y:Fin E.length=>SA E x.val y.val) y x)=L
  have hperm:L.Perm (List.finRange E.length):=by rw[←hL];exact List.mergeSort_perm _ _
  have hlen:L.length=E.length:=by rw[hperm.length_eq,List.length_finRange]
  have hsort:L.Pairwise (λx y=>(!ltOf (λx y:Fin E.length=>SA E x.val y.val) y x)=true):=by
   rw[←hL];refine List.pairwise_mergeSort (λx y z h1 h2=>?_) (λx y=>?_) _
   ·rw[hlt2] at*;simp only[Bool.not_eq_true',decide_eq_false_iff_not] at*;unfold q9 at*;omega
   ·rw[hlt2,hlt2];simp only[Bool.or_eq_true,Bool.not_eq_true',decide_eq_false_iff_not];unfold q9;omega
  have hnd:L.Nodup:=hperm.nodup_iff.2 (F5 _)
  have ahS:bO E (L.map (·.val)):=by
   refine⟨?_,?_⟩
   ·have h1:=hperm.map (·.val)
    rwa [yI] at h1
   ·rw[List.pairwise_map];refine(hsort.and hnd).imp fun{x y} h=>?_;have h1:=h.1;rw[hlt2] at h1;simp only[Bool.not_eq_true',decide_eq_false_iff_not] at h1;exact(uy (E:=E) (show x.val≠y.val from λc=>h.2 (Fin.ext c))).resolve_right h1
  have hRo:=qh (GY (m:=E.length)) w blk n E.length _ _ L.toArray os hrow hH (by simp[hlen]) (by simp[hlen]);have hbel:=jy (GY (m:=E.length)) w blk 0 n L.toArray os hblk;refine⟨rfl,_,ahS,hRo.congr λi hi=>?_,hbel⟩;have hi':i<L.length:=om;simp[GY,hi',List.getD_eq_getElem?_getD]
def aax (E:List Ed) (w:World) (e:Ending) (w':World):Prop:=
 ∃o b,bO E o∧e=.returned (.slice (some ⟨b,0,none⟩) E.length E.length)∧w.heap.size≤b∧Row w' b E.length (λi=>.int .i64 (o.getD i 0:Nat))∧Below w.heap.size w w'
theorem Le (B:Nat) (E:List Ed) (a:Option Addr) (cap:Nat) (A:Nat→Addr) (w:World) (hE:ES w B (.slice a E.length cap) E A) (hB:B≤w.heap.size) (hm:E.length≤65536):
  Calls Tryz.prog 172 #[.slice a E.length cap] w (aax E w):=by
 have hmk:∀w,(Instr.makeSlice 62 (.int .i64 E.length) (.int .i64 E.length)).run Tryz.prog w=.ok (.slice (some ⟨w.heap.size,0,none⟩) E.length E.length) (w.alloc (.cells (madeCells #[.int .i64 0] E.length) 3)):=λw=>
  run_make_row' (P:=Tryz.prog) 62 3 (.int .i64 0) 8 Tryz.underlying62 Tryz.ng rfl .i64 .i64 E.length om om w
 have hb0:Below w.heap.size w ((w.alloc (.cells #[.slice a E.length cap] 198)).alloc (.cells (madeCells #[.int .i64 0] E.length) 3)):=((Below.refl _ w).alloc (Nat.le_refl _) _).alloc sj _;have hx0:Boxed ((w.alloc (.cells #[.slice a E.length cap] 198)).alloc (.cells (madeCells #[.int .i64 0] E.length) 3)) w.heap.size 198 (.slice a E.length cap):=(Boxed.new w _ _).alloc _
 have hr0:Row ((w.alloc (.cells #[.slice a E.length cap] 198)).alloc (.cells (madeCells #[.int .i64 0] E.length) 3)) (w.heap.size+1) E.length (λi=>.int .i64 (if i<0 then i else 0:Nat)):=by
  have:=Row.made (w.alloc (.cells #[.slice a E.length cap] 198)) (.int .i64 0) E.length 3;rw[World.size_alloc] at this
  exact this.congr λi _=>by rw[if_neg om];rfl
 have HE:=jh hE;clear hE;go_in;go_wp2_with fail;generalize (w.alloc (.cells #[.slice a E.length cap] 198)).alloc (.cells (madeCells #[.int .i64 0] E.length) 3)=W at*;clear hmk
 go_loopw [10] (λi wr=>∃k:Nat,k≤E.length∧i=.int .i64 k∧Row wr (w.heap.size+1) E.length (λi=>.int .i64 (if i<k then i else 0:Nat))∧Boxed wr w.heap.size 198 (.slice a E.length cap)∧Below w.heap.size w wr) (λi _=>E.length-(intOf i).toNat)
 case atStart=>exact⟨0,Nat.zero_le _,rfl,hr0,hx0,hb0⟩
 case round=>
  clear hr0 hx0 hb0;obtain⟨k,hk,rfl,hr,hx,dO⟩:=hrel
  by_cases hlt:k<E.length
  ·have c1:=hr.cell hlt;have z1:=hr.frozen k;have HR:=jh hr;have HX:=jh hx;have hki:(0:Int)≤k∧(k:Int)<E.length:=om;clear hr hx;go_wp2;go_roundw
   case rel=>
    refine⟨k+1,om,by go_num,(HR.out.set k (.int .i64 k)).congr λi _=>?_,SH HX.out (by show w.heap.size≠w.heap.size+1;omega) _,dO.setCell (p:=⟨w.heap.size+1,k,none⟩) (by show w.heap.size≤w.heap.size+1;omega) _⟩
    by_cases h1:i=k
    ·rw[if_pos h1,if_pos om,h1]
    ·rw[if_neg h1]
     by_cases h2:i<k
     ·rw[if_pos h2,if_pos om]
     ·rw[if_neg h2,if_neg om]
   case measure=>simp only[intOf];omega
  ·have hke:k=E.length:=om
   have hr2:Row wr (w.heap.size+1) E.length (λi=>.int .i64 i):=hr.congr λi hi=>by rw[if_pos om]
   have HS:=jh (KN E w.heap.size B (w.heap.size+1) a cap A wr (HE.out.below (dO.mono hB)) om om hx.cell hr2 hm);have c0:=hx.cell;clear hr hr2 hx;go_wp2_with fail;apply mO HS;rintro e w2 ⟨rfl,o,ho,hro,hb2⟩;have HO:=jh ho;have HRo:=jh hro;clear HS ho hro;go_wp2;go_ret;exact⟨o,_,HO.out,rfl,om,HRo.out,dO.trans (hb2.mono om)⟩
end
end Go.Proofs.YtpaeogglppampaaGreatDoor
