/- Lemmas of the proof. Conditions: as each one states. -/
import Derived.Test.YtpaeogglppampaaGreatDoorQf
import Derived.Test.YtpaeogglppampaaGreatDoorQk
import Derived.Lib.TrailingZeros
import Derived.Laws.Bits64b
import Derived.RangeFuncBound
import Derived.RangeFuncCalls
import Derived.RangeFuncLeaves
import Derived.Shelf.Abstract
import Derived.Shelf.RegionOpen
import Derived.OwnWalkIn
import Derived.TacticsInMore
import Derived.LoopNIn
import Derived.LoopIn
set_option maxRecDepth 100000
set_option maxHeartbeats 16000000
namespace Go.Proofs.YtpaeogglppampaaGreatDoor
open Go.RowKit
section
open Go.Shelf
def qw (w:World):Prop:=∀j<Lib.deBruijn64tab.length,w.cell? ⟨1,j,none⟩=some (.int .u8 (Lib.deBruijn64tab.getD j 0))
theorem tz64_key (x a:Nat) (hx:x<18446744073709551616) (hx0:x≠0) (hlow:x&&&(18446744073709551616-x)=a):
  IntKind.u64.wrap (bits BinOp.and IntKind.u64 (x:Int) (IntKind.u64.wrap (-(x:Int)))*285870213051353865) / 288230376151711744=((a*285870213051353865%18446744073709551616 / 288230376151711744:Nat):Int):=by
 have e1:IntKind.u64.wrap (-(x:Int))=((18446744073709551616-x:Nat):Int):=by rw[IntKind.wrap_u64];omega
 rw[e1,bits_and_u64_nat x _ hx om,hlow,IntKind.wrap_u64];omega
theorem tz64_core (x k idx:Nat) (w:World) (hx0:((x:Int)==0)=false)
  (key:IntKind.u64.wrap (bits BinOp.and IntKind.u64 (x:Int) (IntKind.u64.wrap (-(x:Int)))*285870213051353865) / 288230376151711744=(idx:Int))
  (hi:idx<64) (hk:k<64) (hcell:w.cell? ⟨1,idx,none⟩=some (.int .u8 k)):
  Calls Tryz.prog 215 #[.int .u64 x] w λe w'=>e=.returned (.int .i64 k)∧w=w':=by
 go_in
 go_wp2_with (simp only[key])
 go_ret;exact⟨rfl,rfl⟩
theorem Om (x:Nat) (hx:x<18446744073709551616) (hx0:x≠0) (w:World) (hT:qw w):
  Calls Tryz.prog 215 #[.int .u64 x] w λe w'=>e=.returned (.int .i64 (Lib.ctz 64 x:Nat))∧w=w':=by
 obtain⟨hlow,hk⟩:=Lib.lowest_bit 64 x hx0 hx;obtain⟨hi,htab⟩:=Lib.deBruijn64_at _ hk;have hcell:=hT _ hi;rw[htab] at hcell;exact tz64_core x _ _ w (by simp;omega) (tz64_key x _ hx hx0 hlow) hi hk hcell
theorem Yk (x:Nat) (hx:x<18446744073709551616) (hx0:x≠0) (w:World) (hT:qw w):
  Calls Tryz.prog 206 #[.int .u64 x] w λe w'=>e=.returned (.int .i64 (Lib.ctz 64 x:Nat))∧w=w':=by
 go_in
 go_wp2_with (go_at_call 215;refine(Om _ hx hx0 _ hT).mono ?_;rintro e w' ⟨rfl,rfl⟩)
 go_ret;exact⟨rfl,rfl⟩
end
section
open Go.Shelf
attribute [local go_sem] Oper.semAt_some
def qD:List Nat→Nat
 |[]=>0
 |j::r=>2 ^ j+qD r
theorem zw (l:List Nat) (j:Nat):qD (l++[j])=qD l+2 ^ j:=by
 induction l with
 |nil=>simp[qD]
 |cons x l ih=>simp[qD,ih];omega
theorem SL (k m:Nat):(2 ^ k*(2*m+1))&&&(2 ^ k*(2*m+1)-1)=2 ^ k*(2*m):=by
 have hp:0<2 ^ k:=Nat.two_pow_pos k
 have e:2 ^ k*(2*m+1)-1=2 ^ k*(2*m)+(2 ^ k-1):=by rw[Nat.mul_add];omega
 rw[e];apply Nat.eq_of_testBit_eq;intro i;rw[Nat.testBit_and,Nat.testBit_two_pow_mul_add _ om,Nat.mul_comm (2 ^ k),Nat.mul_comm (2 ^ k),Nat.testBit_mul_two_pow,Nat.testBit_mul_two_pow]
 by_cases hik:k≤i
 ·simp only[hik,decide_true,Bool.true_and,show ¬i<k from om,if_false]
  cases h:i-k with
  |zero=>simp
  |succ j=>rw[Nat.testBit_succ,Nat.testBit_succ,show(2*m+1) / 2=m from om,show 2*m / 2=m from om,Bool.and_self]
 ·simp[hik]
theorem Lg (x:Nat) (h0:x≠0) (hx:x<8192):(x&&&(x-1))+2 ^ Lib.ctz 64 x=x∧Lib.ctz 64 x<13:=by
 obtain⟨m,hm,hk⟩:=Lib.ctzFrom_spec 64 x om (Nat.lt_of_lt_of_le hx (by decide))
 have hc:Lib.ctz 64 x=Lib.ctzFrom 64 x:=by simp[Lib.ctz,h0]
 rw[hc];generalize Lib.ctzFrom 64 x=k at*;have h1:=SL k m;rw[←hm] at h1;rw[h1]
 have h2:2 ^ k*(2*m)+2 ^ k=x:=by rw[hm,Nat.mul_add,Nat.mul_one]
 refine⟨h2,?_⟩
 have h3:2 ^ k<2 ^ 13:=by
  have:2 ^ k≤x:=om;exact Nat.lt_of_le_of_lt this hx
 exact(Nat.pow_lt_pow_iff_right (by decide)).1 h3
theorem Lh (x:Nat) (h0:x≠0) (hx:x<8192):bits BinOp.and IntKind.u64 (x:Int) ((x:Int)-1)=((x&&&(x-1):Nat):Int):=by
 rw[show(x:Int)-1=((x-1:Nat):Int) from om,bits_and_u64_nat _ _ om om]
theorem qw.below {w w':World} {B:Nat} (h:qw w) (hb:Below B w w') (hB:1<B):qw w':=λj hj=>by rw[hb.cell hB];exact h j hj
theorem FW (n:Nat) (hn:1≤n) (k Bk n₀:Nat) (hk:k<8192) (hn₀:1<n₀) (w:World) (hBk:Bk<w.heap.size) (hw:n₀≤w.heap.size) (hc:w.cell? ⟨Bk,0,none⟩=some (.int .i64 k)) (hT:qw w):
  WH Fence.wide n Tryz.prog 205 #[.pointer (some ⟨Bk,0,none⟩)] (λj:Nat=>#[.int .i64 j]) (Below n₀) (λpre j=>j<13∧qD pre+2 ^ j≤k) (λxs=>qD xs=k) w:=λl J Jx W hW hJ hJx hY h0=>by
 have hcW:W.cell? ⟨Bk,0,none⟩=some (.int .i64 k):=(hW.cell (p:=⟨Bk,0,none⟩) (by show Bk<_;omega)).trans hc;have hTW:qw W:=hT.below hW om;have hbound:n₀≤W.heap.size:=Nat.le_trans hw hW.size;clear hW hc hT hJ hJx;refine callsIn_of_wp Tryz.func205 rfl trivial ?_ rfl;simp only[Tryz.ntmps205,List.size_toArray,List.length_cons,List.length_nil,Nat.reduceAdd,Nat.reduceSub,Array.replicate_succ,Array.replicate_zero,List.push_toArray,List.append_toArray,List.nil_append,List.cons_append]
 gi_wp2
 gi_loopw [3] (λp wr=>∃(pre:List Nat) (x:Nat),p=.int .u64 x∧x+qD pre=k∧qw wr∧J pre wr) (λp _=>(intOf p).toNat)
 case atStart=>exact⟨[],k,rfl,by simp[qD],hTW,h0⟩
 case round=>
  obtain⟨pre,x,rfl,hxs,hTr,hJr⟩:=hrel;have hx:x<8192:=om;have H:=jh hxs;clear hxs
  by_cases hx0:x=0
  ·subst hx0
   gi_wp2
   go_end0;exact⟨⟨_,rfl⟩,.inl ⟨pre,oC H.out,hJr⟩⟩
  ·have hs:=Lg x hx0 hx;obtain⟨fn,tmps,assign,body,hy,hR⟩:=hY pre (Lib.ctz 64 x) wr hJr ⟨hs.2,oC H.out⟩;have HN:=jh (Lh x hx0 hx);have HS:=jh hs.1;clear hs hY
   gi_wp2_with (refine⟨trivial,?_⟩;gi_at_call 206;refine(callsIn_wide.2 (Yk x om hx0 _ hTr)).mono ?_;rintro e w' ⟨rfl,rfl⟩)
   refine hR.mono ?_;rintro e W3 (⟨rfl,hJ3,hk3⟩ |⟨rfl,hJx3⟩)
   ·have hT3:qw W3:=hTr.below hk3 hn₀
    gi_wp2
    go_roundw
    case rel=>exact⟨pre++[Lib.ctz 64 x],x&&&(x-1),by rw[HN.out],by have h1:=H.out;have h2:=HS.out;rw[zw];omega,hT3,hJ3⟩
    case measure=>
     rw[HN.out];have h2:=HS.out;have h3:0<2 ^ Lib.ctz 64 x:=Nat.two_pow_pos _;simp only[intOf];omega
   ·gi_wp2
    refine bodyPost_ret (results_none rfl _ _ _) rfl ?_;exact⟨⟨_,rfl⟩,.inr ⟨_,hJx3⟩⟩
end
section
open Go.Shelf
attribute [local go_sem] Oper.semAt_some
theorem Qd (k:Int) (w:World):
  Calls Tryz.prog 176 #[.int .i64 k] w λe w'=>e=.returned (.func (.func 205) #[] #[.pointer (some ⟨w.heap.size,0,none⟩)])∧w.alloc (.cells #[.int .i64 k] 3)=w':=by
 go_in
 go_wp2
 go_ret;exact⟨rfl,rfl⟩
def Av (p:List Int) (v k:Int):Bool:=vK p v&&decide (0≤k)&&decide (k≤dp p v.toNat)
def Ci (p:List Int) (v k:Int):Int:=if Av p v k then oi (aL p k.toNat v.toNat) else 0
theorem jd {r:Nat} {f:FuncId} {args:Array Value} {w:World} {n:Nat} {v:Value}
  (h:Calls Tryz.prog f args (w.drewN n) λe w'=>e=.returned v∧w.drewN n=w'):CallsIn Fence.wide r Tryz.prog f args (w.drewN n) λe w''=>e=.returned v∧∃m,w''=w.drewN m:=
 callsIn_wide.2 (qH h)
theorem Yh (b B:Nat) (p:List Int) (v k:Int) (w:World) (h:TabAt w B b p) (hBw:B≤w.heap.size) (hv:vK p v=false):
  Calls Tryz.prog 148 #[.pointer (some ⟨b,0,none⟩),.int .i64 v,.int .i64 k] w λe w'=>e=.returned (.tuple #[.int .i64 0,.bool false])∧Below w.heap.size w w':=by
 have hB2:Below w.heap.size w ((w.alloc (.cells #[.pointer (some ⟨b,0,none⟩)] 148)).alloc (.cells #[.int .i64 v] 3)):=((Below.refl _ w).alloc (Nat.le_refl _) _).alloc sj _;have h2:=(h.below (hB2.mono hBw));have H:=jh hv;clear hv;refine(callsIn_wide (n:=5)).1 ?_;refine callsIn_of_wp_marks Tryz.func148 rfl trivial ?_ rfl;simp only[Tryz.ntmps148,List.size_toArray,List.length_cons,List.length_nil,Nat.reduceAdd,Nat.reduceSub,Array.replicate_succ,Array.replicate_zero,List.push_toArray,List.append_toArray,List.nil_append,List.cons_append]
 gi_wp2
 have hwide:∀f,Fence.wide.fn f:=λ_=>trivial
 gi_big_quiet_th ((gi_at_call 147;exact jd (iq H.out (h2.drewN _))))
 gi_wp2
 exact⟨_,results_tmp2 rfl _ _ _,rfl,below_drewN hB2 _⟩
theorem Yi (b B:Nat) (p:List Int) (v k:Int) (w:World) (h:TabAt w B b p) (hBw:B≤w.heap.size) (hv:vK p v=true) (hk:k<0):
  Calls Tryz.prog 148 #[.pointer (some ⟨b,0,none⟩),.int .i64 v,.int .i64 k] w λe w'=>e=.returned (.tuple #[.int .i64 0,.bool false])∧Below w.heap.size w w':=by
 have hB2:Below w.heap.size w ((w.alloc (.cells #[.pointer (some ⟨b,0,none⟩)] 148)).alloc (.cells #[.int .i64 v] 3)):=((Below.refl _ w).alloc (Nat.le_refl _) _).alloc sj _;have h2:=(h.below (hB2.mono hBw));have H:=jh hv;clear hv;refine(callsIn_wide (n:=5)).1 ?_;refine callsIn_of_wp_marks Tryz.func148 rfl trivial ?_ rfl;simp only[Tryz.ntmps148,List.size_toArray,List.length_cons,List.length_nil,Nat.reduceAdd,Nat.reduceSub,Array.replicate_succ,Array.replicate_zero,List.push_toArray,List.append_toArray,List.nil_append,List.cons_append]
 gi_wp2
 have hwide:∀f,Fence.wide.fn f:=λ_=>trivial
 have hd:decide (k<0)=true:=by simpa using hk
 gi_big_quiet_th ((gi_at_call 147;exact jd (iq H.out (h2.drewN _))))
 gi_wp2
 exact⟨_,results_tmp2 rfl _ _ _,rfl,below_drewN hB2 _⟩
theorem Yj (b B:Nat) (p:List Int) (u:Nat) (k:Int) (w:World) (h:TabAt w B b p) (hBw:B≤w.heap.size) (hu:u<p.length) (hk:0≤k) (hf:(dp p u:Int)<k):
  Calls Tryz.prog 148 #[.pointer (some ⟨b,0,none⟩),.int .i64 u,.int .i64 k] w λe w'=>e=.returned (.tuple #[.int .i64 0,.bool false])∧Below w.heap.size w w':=by
 have hB2:Below w.heap.size w ((w.alloc (.cells #[.pointer (some ⟨b,0,none⟩)] 148)).alloc (.cells #[.int .i64 u] 3)):=((Below.refl _ w).alloc (Nat.le_refl _) _).alloc sj _;have h2:=(h.below (hB2.mono hBw));have H:=jh (fJ.2 ⟨u,rfl,hu⟩);obtain⟨db,hdb,c1,c2⟩:=h2.dep;have c3:=c2 u hu;clear c2;have hs:=h.small;refine(callsIn_wide (n:=5)).1 ?_;refine callsIn_of_wp_marks Tryz.func148 rfl trivial ?_ rfl;simp only[Tryz.ntmps148,List.size_toArray,List.length_cons,List.length_nil,Nat.reduceAdd,Nat.reduceSub,Array.replicate_succ,Array.replicate_zero,List.push_toArray,List.append_toArray,List.nil_append,List.cons_append]
 gi_wp2
 have hwide:∀f,Fence.wide.fn f:=λ_=>trivial
 have hd:decide (k<0)=false:=by simpa using hk
 have hi:(0:Int)≤u∧(u:Int)<p.length:=om
 have hd2:decide ((dp p u:Int)<k)=true:=by simpa using hf
 gi_big_quiet_th ((gi_at_call 147;exact jd (iq H.out (h2.drewN _))))
 gi_wp2
 exact⟨_,results_tmp2 rfl _ _ _,rfl,below_drewN hB2 _⟩
theorem Od {w W W0:World} {u:Nat} {b:Nat} {p:List Int} {pre:List Nat} {x m:Nat} {a:Act}
  (g1:W.cell? ⟨w.heap.size,0,none⟩=some (.pointer (some ⟨b,0,none⟩)))
  (g2:W.cell? ⟨w.heap.size+1,0,none⟩=some (.int .i64 m)) (g3:W.frozen? ⟨w.heap.size+1,0,none⟩=false) (gB:Below w.heap.size w W):
  ownPostG W0.heap.size (Below w.heap.size)
   (λpre W=>(W.cell? ⟨w.heap.size,0,none⟩=some (.pointer (some ⟨b,0,none⟩))∧W.cell? ⟨w.heap.size+1,0,none⟩=some (.int .i64 (oi (aL p (qD pre) u)))∧W.frozen? ⟨w.heap.size+1,0,none⟩=false)∧Below w.heap.size w W)
   (λ_ _ _=>False) (pre++[x]) W Exit.normal a ((W.setCell ⟨w.heap.size+1,0,none⟩ (.int .i64 (oi (aL p (qD (pre++[x])) u)))).drew):=by
 have h1:(W.setCell ⟨w.heap.size+1,0,none⟩ (.int .i64 (oi (aL p (qD (pre++[x])) u)))).cell? ⟨w.heap.size,0,none⟩=some (.pointer (some ⟨b,0,none⟩)):=by
  rw[World.cell?_of_block (Below.heap_setCell _ _ _ _ sj)];exact g1
 exact⟨(((KeepsOthers.setCell _ _ _).trans (KeepsOthers.drew _)).from _),((Below.refl w.heap.size W).setCell (p:=⟨w.heap.size+1,0,none⟩) sj _).drew,⟨h1,World.cell?_setCell_same' _ _ _ (by rw[g2];rfl),by rw[frozen_drew_own,World.frozen?_setCell];exact g3⟩,(gB.setCell (p:=⟨w.heap.size+1,0,none⟩) sj _).drew⟩
theorem abU (b B:Nat) (p:List Int) (u k:Nat) (w:World) (h:TabAt w B b p) (hBw:B≤w.heap.size) (hT:qw w) (hu:u<p.length) (hf:k≤dp p u):
  Calls Tryz.prog 148 #[.pointer (some ⟨b,0,none⟩),.int .i64 u,.int .i64 k] w λe w'=>e=.returned (.tuple #[.int .i64 (oi (aL p k u)),.bool true])∧Below w.heap.size w w':=by
 have hB2:Below w.heap.size w ((w.alloc (.cells #[.pointer (some ⟨b,0,none⟩)] 148)).alloc (.cells #[.int .i64 u] 3)):=((Below.refl _ w).alloc (Nat.le_refl _) _).alloc sj _;have h2:=(h.below (hB2.mono hBw));have H:=jh (fJ.2 ⟨u,rfl,hu⟩)
 have hw1:1<w.heap.size:=by
  have:=hT 0 (by decide);obtain⟨o,ho,_⟩:=cells_of_cell this;exact(Array.getElem?_eq_some_iff.1 ho).1
 have hs:=h.small;have fU:=h.tree;have hd0:dp p u<p.length:=mJ fU hu;refine(callsIn_wide (n:=5)).1 ?_;refine callsIn_of_wp_marks Tryz.func148 rfl trivial ?_ rfl;simp only[Tryz.ntmps148,List.size_toArray,List.length_cons,List.length_nil,Nat.reduceAdd,Nat.reduceSub,Array.replicate_succ,Array.replicate_zero,List.push_toArray,List.append_toArray,List.nil_append,List.cons_append]
 gi_wp2
 have hwide:∀f,Fence.wide.fn f:=λ_=>trivial;have hd:decide ((k:Int)<0)=false:=sj;have hi:(0:Int)≤u∧(u:Int)<p.length:=om
 have hd2:decide (dp p u<k)=false:=by simp;omega
 obtain⟨db,hdb,c1,c2⟩:=h2.dep;have c3:=c2 u hu;clear c2
 gi_big_quiet_th ((gi_at_call 147;exact jd (iq H.out (h2.drewN _))))
 clear c1 c3 hd hd2
 gi_wp2_with (gi_at_call 176;refine(callsIn_wide.2 (Qd _ _)).mono ?_;rintro e w' ⟨rfl,rfl⟩)
 have hB3:Below w.heap.size w ((((w.alloc (.cells #[.pointer (some ⟨b,0,none⟩)] 148)).alloc (.cells #[.int .i64 u] 3)).drewN nq).alloc (.cells #[.int .i64 k] 3)):=
  (below_drewN hB2 nq).alloc (by simp;omega) _
 have f1:((((w.alloc (.cells #[.pointer (some ⟨b,0,none⟩)] 148)).alloc (.cells #[.int .i64 u] 3)).drewN nq).alloc (.cells #[.int .i64 k] 3)).cell? ⟨w.heap.size,0,none⟩=some (.pointer (some ⟨b,0,none⟩)):=by go_simp
 have f2:((((w.alloc (.cells #[.pointer (some ⟨b,0,none⟩)] 148)).alloc (.cells #[.int .i64 u] 3)).drewN nq).alloc (.cells #[.int .i64 k] 3)).cell? ⟨w.heap.size+1,0,none⟩=some (.int .i64 u):=by go_simp
 have f3:((((w.alloc (.cells #[.pointer (some ⟨b,0,none⟩)] 148)).alloc (.cells #[.int .i64 u] 3)).drewN nq).alloc (.cells #[.int .i64 k] 3)).frozen? ⟨w.heap.size+1,0,none⟩=false:=by go_simp
 have f4:((((w.alloc (.cells #[.pointer (some ⟨b,0,none⟩)] 148)).alloc (.cells #[.int .i64 u] 3)).drewN nq).alloc (.cells #[.int .i64 k] 3)).cell? ⟨w.heap.size+1+1,0,none⟩=some (.int .i64 k):=by go_simp
 have f5:((((w.alloc (.cells #[.pointer (some ⟨b,0,none⟩)] 148)).alloc (.cells #[.int .i64 u] 3)).drewN nq).alloc (.cells #[.int .i64 k] 3)).heap.size=w.heap.size+3:=sj;generalize ((((w.alloc (.cells #[.pointer (some ⟨b,0,none⟩)] 148)).alloc (.cells #[.int .i64 u] 3)).drewN nq).alloc (.cells #[.int .i64 k] 3))=W0 at*;obtain⟨jb,hj⟩:=(h.below (hB3.mono hBw)).jmp;have hjB:∀j<13,jb j<w.heap.size:=λj hj'=>Nat.lt_of_lt_of_le (hj j hj').1 hBw;have hlt:=h.lt;clear h h2
 refine FN (F:=Fence.wide) rfl om (gf:=205) (lb:=#[.pointer (some ⟨w.heap.size+1+1,0,none⟩)]) rfl trivial (enters_of Tryz.func205 (by kernel_rfl) rfl)
  (FW 4 om k (w.heap.size+1+1) w.heap.size om hw1 W0 om om f4 (hT.below hB3 hw1)) belowK_t (belowK_b om) (Below.refl _ _) (λ_=>rfl)
  (λpre W=>(W.cell? ⟨w.heap.size,0,none⟩=some (.pointer (some ⟨b,0,none⟩))∧W.cell? ⟨w.heap.size+1,0,none⟩=some (.int .i64 (oi (aL p (qD pre) u)))∧W.frozen? ⟨w.heap.size+1,0,none⟩=false)∧Below w.heap.size w W)
  (λ_ _ _=>False)
  (OwnFrom.and (Own.from (λs A B row hs hg hr=>⟨cell_kept hs.1 hg hr,cell_kept hs.2.1 hg hr,(frozen_kept hs.2.1 hg hr).trans hs.2.2⟩) _) (ownFrom_below (Nat.le_refl _) om))
  (λ_ _ _ _ _ hs _ _=>hs)
  ⟨⟨f1,f2,f3⟩,hB3⟩
  (λ_ x a' _=>a'={ tmps:=#[.pointer (some ⟨b,0,none⟩),.int .i64 u,.int .i64 k,.pointer (some ⟨w.heap.size,0,none⟩),.pointer (some ⟨w.heap.size+1,0,none⟩),undef,.int .i64 0,.bool false,.int .i64 x,.pointer (some ⟨b,0,none⟩),.int .i64 u,.bool true,.bool false,.bool false,.int .i64 k,.bool false,.bool false,.bool false,.int .i64 k,.pointer (some ⟨b,0,none⟩),.pointer (some ⟨b,0,none⟩),.pointer (some ⟨b,1,none⟩),.slice (some ⟨db,0,none⟩) p.length p.length,.int .i64 u,.pointer (some ⟨db,u,none⟩),.int .i64 (dp p u:Nat),.bool false,.bool false,.int .i64 k,.func (Fn.func 205) #[] #[.pointer (some ⟨w.heap.size+1+1,0,none⟩)],.int .i64 x,undef,undef,undef,undef,undef,undef,undef,undef,undef,undef],defers:=[] })
  (λ_ _ _ _ _ _ _ hs _ _=>hs) ?assign ?body ?done ?stop
 case assign=>
  intro l pre x W K hI hR hK
  gi_wp2
  exact hK _ _ (KeepsFrom.refl _ _) (Below.refl _ _) hI rfl
 case body=>
  rintro l pre x a' W hl-⟨⟨g1,g2,g3⟩,gB⟩ rfl ⟨hx,hsum⟩;have ahR:0<2 ^ x:=Nat.two_pow_pos x;obtain⟨m,hm⟩:=ou fU (qD pre) u hu om;have hml:=uR fU hu hm
  have g4:W.cell? ⟨b,2+x,none⟩=some (.slice (some ⟨jb x,0,none⟩) p.length p.length):=by
   rw[gB.cell (Nat.lt_of_lt_of_le hlt hBw),←hB3.cell (Nat.lt_of_lt_of_le hlt hBw)];exact(hj x hx).2.1
  have g5:W.cell? ⟨jb x,m,none⟩=some (.int .i64 (oi (aL p (2 ^ x) m))):=by
   rw[gB.cell (hjB x hx),←hB3.cell (hjB x hx)];exact(hj x hx).2.2 m hml
  have g6:aL p (2 ^ x) m=aL p (qD (pre++[x])) u:=by rw[zw,jg,hm];rfl
  rw[hm] at g2;rw[g6] at g5;replace g2:W.cell? ⟨w.heap.size+1,0,none⟩=some (.int .i64 m):=g2;have hmi:(0:Int)≤m∧(m:Int)<p.length:=om;have hxi:(0:Int)≤x∧(x:Int)<13:=om
  have hmx:Tryz.prog.follows .mixedOrders=true:=by kernel_rfl
  clear hm g6 hj hsum ahR;dsimp only
  gi_wp2
  gi_region_with_o (fail)
  all_goals gi_wp2
  all_goals exact Od g1 g2 g3 gB
 case done=>
  rintro D xs W hD hS ⟨⟨g1,g2,g3⟩,gB⟩ hK
  gi_wp2
  refine⟨sj,.inl ⟨_,_,rfl,run_takeDeferred hK,?_⟩⟩;exact⟨_,results_tmp2 rfl _ _ _,rfl,gB.trans (belowK_b (w:=w) (Nat.le_refl _) W D _ _ om hK rfl rfl)⟩
 case stop=>
  rintro D c pre W _ h _;exact h.elim
end
end Go.Proofs.YtpaeogglppampaaGreatDoor
