/- Both packages' tables side by side, made of the same forest or neither of them made: what they answer. Conditions: the library's table of de Bruijn is as its initialiser lays it. -/
import Derived.Test.YtbjakjgabolkeaaDoorNone
namespace Go.Proofs.YtbjakjgabolkeaaDoor
open Go.RowKit Go.Shelf

/-- nothing is appended to a new slice that is empty -/
theorem run_append_nothing {t e : TypeId} {bytes : Nat} (E : ET t e 1 bytes) (ty : TypeId) (ad : Addr) (ax : Option Addr) (c : Nat) (w : World) :
    (Builtin.append_ #[t, t] ty #[.slice (some ad) 0 0, .slice ax 0 c]).run Tryd.prog w = .ok (.slice (some ad) 0 0) w := by
  obtain ⟨i, z, hi, hz, h2, h3, h4⟩ := E.info
  cases ax with
  | none => simp [Builtin.append_, run_underlying E.ht, sizeOf, typeInfo, hi, Builtin.lenOf, Builtin.firstCells, storeCells]
  | some a => simp [Builtin.append_, run_underlying E.ht, sizeOf, typeInfo, hi, Builtin.lenOf, Builtin.firstCells, loadCells, loadCellsFrom, storeCells]
/-- a copy of any slice: the elements, appended to a new one that is empty -/
theorem copiedAny {ops : Array Oper} {rest : List Oper} {o : Oper} {a : Act} {Q : Exit → Act → World → Prop} {w0 : World} {t e : TypeId} {bytes : Nat} {k : IntKind} (E : ET t e 1 bytes) (hgd : o.guard = none) (s x : Operand)
    (ho : o.op = .call { callee := .builtin .append, args := #[s, x], argTypes := #[t, t] }) {ax : Option Addr} {m c B : Nat} {l : List Int} {A : Nat → Addr} (hS : Sl t k w0 B (.slice ax m c) l A) (hB : B ≤ w0.heap.size) (hl : l.length = m)
    (N : Nat) (hs : a.eval s = .slice (some ⟨N, 0, none⟩) 0 0) (hN : w0.heap.size = N) (hx : a.eval x = .slice ax m c) (h63 : m ≤ 9223372036854775807) (hbytes : m * bytes ≤ 140737488355328)
    (h : ∀ (g cap : Nat) (w1 : World), w0.heap.size ≤ g → w1.ownsRow w0.heap.size e 1 (.slice (some ⟨g, 0, none⟩) m cap) m (l.map (Value.int k)) → Below w0.heap.size w0 w1 →
      wpList Tryd.prog ops Q rest (a.put o.dst (.slice (some ⟨g, 0, none⟩) m cap)) w1) : wpList Tryd.prog ops Q (o :: rest) a (w0.alloc (.cells #[] e)) := by
  by_cases hm : m = 0
  · subst hm
    subst hN
    have hl0 : l = [] := List.eq_nil_of_length_eq_zero hl
    subst hl0
    refine wpList_plain hgd fun K hK => ?_
    have hr := run_append_nothing E o.type ⟨w0.heap.size, 0, none⟩ ax c (w0.alloc (.cells #[] e))
    unfold Oper.wp execOp
    simp only [ho, resolve, invoke, builtin, Sem.run_bind, Sem.run_pure, Result.andThen_ok, List.map_toArray, List.map_cons, List.map_nil, hs, hx, hr]
    exact hK _ _ (h w0.heap.size 0 _ (Nat.le_refl _) (World.ownsRow_lit w0 #[] 0 (Nat.le_refl _) (Nat.zero_le _) rfl) ((Below.refl _ _).alloc (Nat.le_refl _) _))
  · exact copied E hgd s x ho hS hB hl (by omega) N hs hN hx h63 hbytes h

/-- both tables: of the forest o, or none -/
def Both (w : World) (B : Nat) (o : Option (List Int)) (vt vr : Value) : Prop := match o with
  | some p => (∃ b, vt = .pointer (some ⟨b, 0, none⟩) ∧ TabAt w B b p) ∧ (∃ c, vr = .pointer (some ⟨c, 0, none⟩) ∧ RefAt w B c p)
  | none => NoTab w B vt ∧ vr = .pointer none
theorem Both.below {w w' : World} {B : Nat} {o : Option (List Int)} {vt vr : Value} (h : Both w B o vt vr) (hb : Below B w w') : Both w' B o vt vr := by
  cases o with
  | none => exact ⟨h.1.below hb, h.2⟩
  | some p =>
    obtain ⟨⟨b, h1, h2⟩, c, h3, h4⟩ := h
    exact ⟨⟨b, h1, h2.below hb⟩, c, h3, h4.below hb⟩
def oUpV (o : Option (List Int)) (v k : Int) : Int := match o with | some p => upV p v k | none => 0
def oUpB (o : Option (List Int)) (v k : Int) : Bool := match o with | some p => upB p v k | none => false
def oRoV (o : Option (List Int)) (v : Int) : Int := match o with | some p => upV p v (dpV p v) | none => 0
def oRoB (o : Option (List Int)) (v : Int) : Bool := match o with | some p => upB p v (dpV p v) | none => false
def oCoV (o : Option (List Int)) (v k : Int) : Int := match o with | some p => coV p v k | none => 0
def oCoB (o : Option (List Int)) (v k : Int) : Bool := match o with | some p => coB p v k | none => false
def oDiV (o : Option (List Int)) (v k : Int) : Int := match o with | some p => diV p v k | none => 0
def oAbB (o : Option (List Int)) (v k : Int) : Bool := match o with | some p => abB p v k | none => false
def oDpV (o : Option (List Int)) (v : Int) : Int := match o with | some p => dpV p v | none => 0
def oLen (o : Option (List Int)) : Int := match o with | some p => p.length | none => 0
def oClV (o : Option (List Int)) (v : Int) (key : List Int) (m : Int) : Int := match o with | some p => clV p v key m | none => 0
def oClE (o : Option (List Int)) (v : Int) (key : List Int) : Int := match o with | some p => clE p v key | none => 1

variable {w : World} {B : Nat} {o : Option (List Int)} {vt vr : Value}
theorem Both.len (h : Both w B o vt vr) : Calls Tryd.prog 25 #[vt] w fun e w' => e = .returned (.int .i64 (oLen o)) ∧ w = w' := by
  cases o with
  | none => exact len_no h.1
  | some p => obtain ⟨⟨b, rfl, h2⟩, _⟩ := h; exact len_tab _ _ _ _ h2
theorem Both.lenR (h : Both w B o vt vr) : Calls Tryd.prog 30 #[vr] w fun e w' => e = .returned (.int .i64 (oLen o)) ∧ w = w' := by
  cases o with
  | none => obtain ⟨_, rfl⟩ := h; exact len_nil
  | some p => obtain ⟨_, c, rfl, h2⟩ := h; exact len_ref _ _ _ _ h2
theorem Both.depth (h : Both w B o vt vr) {v : Int} : Calls Tryd.prog 16 #[vt, .int .i64 v] w fun e w' => e = .returned (.int .i64 (oDpV o v)) ∧ w = w' := by
  cases o with
  | none => exact depth_no h.1
  | some p => obtain ⟨⟨b, rfl, h2⟩, _⟩ := h; exact depth_tab _ _ _ _ _ h2
theorem Both.depthR (h : Both w B o vt vr) (hB : B ≤ w.heap.size) {v : Int} : Calls Tryd.prog 31 #[vr, .int .i64 v] w fun e w' => e = .returned (.int .i64 (oDpV o v)) ∧ Below w.heap.size w w' := by
  cases o with
  | none => obtain ⟨_, rfl⟩ := h; exact depth_nil.mono fun _ _ ⟨h1, h2⟩ => ⟨h1, h2 ▸ Below.refl _ _⟩
  | some p => obtain ⟨_, c, rfl, h2⟩ := h; exact depth_ref _ _ _ _ _ h2 hB
theorem Both.upR (h : Both w B o vt vr) (hB : B ≤ w.heap.size) {v k : Int} : Calls Tryd.prog 33 #[vr, .int .i64 v, .int .i64 k] w fun e w' => e = .returned (.tuple #[.int .i64 (oUpV o v k), .bool (oUpB o v k)]) ∧ Below w.heap.size w w' := by
  cases o with
  | none => obtain ⟨_, rfl⟩ := h; exact up_nil.mono fun _ _ ⟨h1, h2⟩ => ⟨h1, h2 ▸ Below.refl _ _⟩
  | some p => obtain ⟨_, c, rfl, h2⟩ := h; exact up_ref _ _ _ _ _ _ h2 hB
theorem Both.rootR (h : Both w B o vt vr) (hB : B ≤ w.heap.size) {v : Int} : Calls Tryd.prog 29 #[vr, .int .i64 v] w fun e w' => e = .returned (.tuple #[.int .i64 (oRoV o v), .bool (oRoB o v)]) ∧ Below w.heap.size w w' := by
  cases o with
  | none => obtain ⟨_, rfl⟩ := h; exact root_nil.mono fun _ _ ⟨h1, h2⟩ => ⟨h1, h2 ▸ Below.refl _ _⟩
  | some p => obtain ⟨_, c, rfl, h2⟩ := h; exact root_ref _ _ _ _ _ h2 hB
theorem Both.commonR (h : Both w B o vt vr) (hB : B ≤ w.heap.size) {v k : Int} : Calls Tryd.prog 34 #[vr, .int .i64 v, .int .i64 k] w fun e w' => e = .returned (.tuple #[.int .i64 (oCoV o v k), .bool (oCoB o v k)]) ∧ Below w.heap.size w w' := by
  cases o with
  | none => obtain ⟨_, rfl⟩ := h; exact common_nil.mono fun _ _ ⟨h1, h2⟩ => ⟨h1, h2 ▸ Below.refl _ _⟩
  | some p => obtain ⟨_, c, rfl, h2⟩ := h; exact common_ref _ _ _ _ _ _ h2 hB
theorem Both.distR (h : Both w B o vt vr) (hB : B ≤ w.heap.size) {v k : Int} : Calls Tryd.prog 35 #[vr, .int .i64 v, .int .i64 k] w fun e w' => e = .returned (.tuple #[.int .i64 (oDiV o v k), .bool (oCoB o v k)]) ∧ Below w.heap.size w w' := by
  cases o with
  | none => obtain ⟨_, rfl⟩ := h; exact dist_nil.mono fun _ _ ⟨h1, h2⟩ => ⟨h1, h2 ▸ Below.refl _ _⟩
  | some p => obtain ⟨_, c, rfl, h2⟩ := h; exact dist_ref _ _ _ _ _ _ h2 hB
theorem Both.aboveR (h : Both w B o vt vr) (hB : B ≤ w.heap.size) {v k : Int} : Calls Tryd.prog 32 #[vr, .int .i64 v, .int .i64 k] w fun e w' => e = .returned (.bool (oAbB o v k)) ∧ Below w.heap.size w w' := by
  cases o with
  | none => obtain ⟨_, rfl⟩ := h; exact above_nil.mono fun _ _ ⟨h1, h2⟩ => ⟨h1, h2 ▸ Below.refl _ _⟩
  | some p => obtain ⟨_, c, rfl, h2⟩ := h; exact above_ref _ _ _ _ _ _ h2 hB
theorem Both.climbR (h : Both w B o vt vr) {v m : Int} {key : List Int} {a : Option Addr} {n cap : Nat} {A : Nat → Addr} (hn : key.length = n) (hK : Sl 40 .i64 w B (.slice a n cap) key A) :
    Calls Tryd.prog 36 #[vr, .int .i64 v, .slice a n cap, .int .i64 m] w fun e w' => e = .returned (.tuple #[.int .i64 (oClV o v key m), .int .i64 (oClE o v key)]) ∧ Below w.heap.size w w' := by
  cases o with
  | none => obtain ⟨_, rfl⟩ := h; exact climb_nil.mono fun _ _ ⟨h1, h2⟩ => ⟨h1, h2 ▸ Below.refl _ _⟩
  | some p => obtain ⟨_, c, rfl, h2⟩ := h; exact climb_ref _ _ _ _ _ _ _ _ _ _ _ h2 hn hK
theorem Both.climb (h : Both w B o vt vr) (hB : B ≤ w.heap.size) {v m : Int} {key : List Int} {a : Option Addr} {n cap K : Nat} {A : Nat → Addr} (hn : key.length = n) (hK : Sl 40 .i64 w K (.slice a n cap) key A) (hKB : K ≤ w.heap.size) :
    Calls Tryd.prog 24 #[vt, .int .i64 v, .slice a n cap, .int .i64 m] w fun e w' => e = .returned (.tuple #[.int .i64 (oClV o v key m), .int .i64 (oClE o v key)]) ∧ Below w.heap.size w w' := by
  cases o with
  | none => exact climb_no h.1 hB
  | some p =>
    obtain ⟨⟨b, rfl, h2⟩, _⟩ := h
    subst hn
    exact climb_tab b w.heap.size p key m a cap A v w (h2.mono hB) ⟨hK.ix, fun i hi => Nat.lt_of_lt_of_le (hK.lt i hi) hKB, hK.cell⟩ (Nat.le_refl _)
theorem Both.up (h : Both w B o vt vr) (hB : B ≤ w.heap.size) (hT : DeB w) {v k : Int} : Calls Tryd.prog 20 #[vt, .int .i64 v, .int .i64 k] w fun e w' => e = .returned (.tuple #[.int .i64 (oUpV o v k), .bool (oUpB o v k)]) ∧ Below w.heap.size w w' := by
  cases o with
  | none => exact up_no' h.1 hB
  | some p => obtain ⟨⟨b, rfl, h2⟩, _⟩ := h; exact up_tab _ _ _ _ _ _ h2 hB hT
theorem Both.root (h : Both w B o vt vr) (hB : B ≤ w.heap.size) (hT : DeB w) {v : Int} : Calls Tryd.prog 19 #[vt, .int .i64 v] w fun e w' => e = .returned (.tuple #[.int .i64 (oRoV o v), .bool (oRoB o v)]) ∧ Below w.heap.size w w' := by
  cases o with
  | none => exact root_no h.1 hB
  | some p => obtain ⟨⟨b, rfl, h2⟩, _⟩ := h; exact root_tab _ _ _ _ _ h2 hB hT
theorem Both.common (h : Both w B o vt vr) (hB : B ≤ w.heap.size) (hT : DeB w) {v k : Int} : Calls Tryd.prog 14 #[vt, .int .i64 v, .int .i64 k] w fun e w' => e = .returned (.tuple #[.int .i64 (oCoV o v k), .bool (oCoB o v k)]) ∧ Below w.heap.size w w' := by
  cases o with
  | none => exact (common_no h.1).mono fun _ _ ⟨h1, h2⟩ => ⟨h1, h2 ▸ Below.refl _ _⟩
  | some p => obtain ⟨⟨b, rfl, h2⟩, _⟩ := h; exact common_tab _ _ _ _ _ _ h2 hB hT
theorem Both.dist (h : Both w B o vt vr) (hB : B ≤ w.heap.size) (hT : DeB w) {v k : Int} : Calls Tryd.prog 15 #[vt, .int .i64 v, .int .i64 k] w fun e w' => e = .returned (.tuple #[.int .i64 (oDiV o v k), .bool (oCoB o v k)]) ∧ Below w.heap.size w w' := by
  cases o with
  | none => exact (dist_no h.1).mono fun _ _ ⟨h1, h2⟩ => ⟨h1, h2 ▸ Below.refl _ _⟩
  | some p => obtain ⟨⟨b, rfl, h2⟩, _⟩ := h; exact dist_tab _ _ _ _ _ _ h2 hB hT
theorem Both.above (h : Both w B o vt vr) (hB : B ≤ w.heap.size) (hT : DeB w) {v k : Int} : Calls Tryd.prog 18 #[vt, .int .i64 v, .int .i64 k] w fun e w' => e = .returned (.bool (oAbB o v k)) ∧ Below w.heap.size w w' := by
  cases o with
  | none => exact (above_no h.1).mono fun _ _ ⟨h1, h2⟩ => ⟨h1, h2 ▸ Below.refl _ _⟩
  | some p => obtain ⟨⟨b, rfl, h2⟩, _⟩ := h; exact above_tab _ _ _ _ _ _ h2 hB hT
end Go.Proofs.YtbjakjgabolkeaaDoor
