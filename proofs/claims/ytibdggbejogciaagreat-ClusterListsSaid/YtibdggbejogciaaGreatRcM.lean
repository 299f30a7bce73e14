/- The rows of a tree in memory while it is built. No conditions. -/
import Derived.Test.YtibdggbejogciaaGreatRcF
namespace Go.Proofs.YtibdggbejogciaaGreat
open Go.RowKit

/-- the blocks of a tree, and of the sets that help to build it -/
structure Blk where
  t : Nat
  l : Nat
  r : Nat
  p : Nat
  h : Nat
  s : Nat
  u : Nat
def Blk.list (b : Blk) : List Nat := [b.t, b.l, b.r, b.p, b.h, b.s, b.u]
/-- no two alike -/
def Dif (l : List Nat) : Prop := ∀ i j a b : Nat, l[i]? = some a → l[j]? = some b → i ≠ j → a ≠ b
theorem Dif.ne {l : List Nat} (h : Dif l) (i j : Nat) {a b : Nat} (hi : l[i]? = some a) (hj : l[j]? = some b) (hij : i ≠ j) : a ≠ b := h i j a b hi hj hij
/-- the value of a tree -/
def trV (n z : Nat) (b : Blk) : Array Value := #[.int .i64 (n : Nat), .slice (some ⟨b.l, 0, none⟩) z z, .slice (some ⟨b.r, 0, none⟩) z z, .slice (some ⟨b.p, 0, none⟩) z z, .slice (some ⟨b.h, 0, none⟩) z z, .slice (some ⟨b.s, 0, none⟩) z z]
def trC (n z : Nat) (b : Blk) (i : Nat) : Value := (trV n z b).getD i undef
def intF (f : Nat → Int) (x : Nat) : Value := .int .i64 (f x)
structure TrM (w : World) (b : Blk) (n z : Nat) (L R P H Z : Nat → Int) (up rt : Nat → Nat) : Prop where
  dif : Dif b.list
  st : Row w b.t 6 (trC n z b)
  rl : Row w b.l z (intF L)
  rr : Row w b.r z (intF R)
  rp : Row w b.p z (intF P)
  rh : Row w b.h z (intF H)
  rs : Row w b.s z (intF Z)
  ru : Row w b.u (2 * n) (setC up rt)
def updI (f : Nat → Int) (x : Nat) (v : Int) (y : Nat) : Int := if y = x then v else f y
theorem intF_set (f : Nat → Int) (x : Nat) (v : Int) (y : Nat) : (if y = x then Value.int .i64 v else intF f y) = intF (updI f x v) y := by
  unfold intF updI; by_cases c : y = x <;> simp [c]
section
variable {w w' : World} {b : Blk} {n z : Nat} {L R P H Z L' R' P' H' Z' : Nat → Int} {up rt up' rt' : Nat → Nat}
theorem TrM.drewN (h : TrM w b n z L R P H Z up rt) (q : Nat) : TrM (w.drewN q) b n z L R P H Z up rt := ⟨h.dif, h.st, h.rl, h.rr, h.rp, h.rh, h.rs, h.ru⟩
theorem TrM.drew (h : TrM w b n z L R P H Z up rt) : TrM w.drew b n z L R P H Z up rt := ⟨h.dif, h.st, h.rl, h.rr, h.rp, h.rh, h.rs, h.ru⟩
theorem TrM.congr (h : TrM w b n z L R P H Z up rt) (e1 : ∀ i, i < z → L i = L' i) (e2 : ∀ i, i < z → R i = R' i) (e3 : ∀ i, i < z → P i = P' i) (e4 : ∀ i, i < z → H i = H' i) (e5 : ∀ i, i < z → Z i = Z' i) : TrM w b n z L' R' P' H' Z' up rt :=
  ⟨h.dif, h.st, h.rl.congr fun i hi => by unfold intF; rw [e1 i hi], h.rr.congr fun i hi => by unfold intF; rw [e2 i hi], h.rp.congr fun i hi => by unfold intF; rw [e3 i hi], h.rh.congr fun i hi => by unfold intF; rw [e4 i hi], h.rs.congr fun i hi => by unfold intF; rw [e5 i hi], h.ru⟩
theorem TrM.congrU (h : TrM w b n z L R P H Z up rt) (e1 : ∀ i, i < n → up i = up' i) (e2 : ∀ i, i < n → rt i = rt' i) : TrM w b n z L R P H Z up' rt' :=
  ⟨h.dif, h.st, h.rl, h.rr, h.rp, h.rh, h.rs, h.ru.congr fun q hq => by unfold setC; rw [e1 (q / 2) (by omega), e2 (q / 2) (by omega)]⟩
theorem TrM.setL (h : TrM w b n z L R P H Z up rt) (x : Nat) (v : Int) : TrM (w.setCell ⟨b.l, x, none⟩ (.int .i64 v)) b n z (updI L x v) R P H Z up rt :=
  ⟨h.dif, h.st.setOther (h.dif.ne 0 1 rfl rfl (by decide)) _, (h.rl.set x _).congr fun y _ => intF_set L x v y, h.rr.setOther (h.dif.ne 2 1 rfl rfl (by decide)) _, h.rp.setOther (h.dif.ne 3 1 rfl rfl (by decide)) _, h.rh.setOther (h.dif.ne 4 1 rfl rfl (by decide)) _, h.rs.setOther (h.dif.ne 5 1 rfl rfl (by decide)) _, h.ru.setOther (h.dif.ne 6 1 rfl rfl (by decide)) _⟩
theorem TrM.setR (h : TrM w b n z L R P H Z up rt) (x : Nat) (v : Int) : TrM (w.setCell ⟨b.r, x, none⟩ (.int .i64 v)) b n z L (updI R x v) P H Z up rt :=
  ⟨h.dif, h.st.setOther (h.dif.ne 0 2 rfl rfl (by decide)) _, h.rl.setOther (h.dif.ne 1 2 rfl rfl (by decide)) _, (h.rr.set x _).congr fun y _ => intF_set R x v y, h.rp.setOther (h.dif.ne 3 2 rfl rfl (by decide)) _, h.rh.setOther (h.dif.ne 4 2 rfl rfl (by decide)) _, h.rs.setOther (h.dif.ne 5 2 rfl rfl (by decide)) _, h.ru.setOther (h.dif.ne 6 2 rfl rfl (by decide)) _⟩
theorem TrM.setP (h : TrM w b n z L R P H Z up rt) (x : Nat) (v : Int) : TrM (w.setCell ⟨b.p, x, none⟩ (.int .i64 v)) b n z L R (updI P x v) H Z up rt :=
  ⟨h.dif, h.st.setOther (h.dif.ne 0 3 rfl rfl (by decide)) _, h.rl.setOther (h.dif.ne 1 3 rfl rfl (by decide)) _, h.rr.setOther (h.dif.ne 2 3 rfl rfl (by decide)) _, (h.rp.set x _).congr fun y _ => intF_set P x v y, h.rh.setOther (h.dif.ne 4 3 rfl rfl (by decide)) _, h.rs.setOther (h.dif.ne 5 3 rfl rfl (by decide)) _, h.ru.setOther (h.dif.ne 6 3 rfl rfl (by decide)) _⟩
theorem TrM.setH (h : TrM w b n z L R P H Z up rt) (x : Nat) (v : Int) : TrM (w.setCell ⟨b.h, x, none⟩ (.int .i64 v)) b n z L R P (updI H x v) Z up rt :=
  ⟨h.dif, h.st.setOther (h.dif.ne 0 4 rfl rfl (by decide)) _, h.rl.setOther (h.dif.ne 1 4 rfl rfl (by decide)) _, h.rr.setOther (h.dif.ne 2 4 rfl rfl (by decide)) _, h.rp.setOther (h.dif.ne 3 4 rfl rfl (by decide)) _, (h.rh.set x _).congr fun y _ => intF_set H x v y, h.rs.setOther (h.dif.ne 5 4 rfl rfl (by decide)) _, h.ru.setOther (h.dif.ne 6 4 rfl rfl (by decide)) _⟩
theorem TrM.setS (h : TrM w b n z L R P H Z up rt) (x : Nat) (v : Int) : TrM (w.setCell ⟨b.s, x, none⟩ (.int .i64 v)) b n z L R P H (updI Z x v) up rt :=
  ⟨h.dif, h.st.setOther (h.dif.ne 0 5 rfl rfl (by decide)) _, h.rl.setOther (h.dif.ne 1 5 rfl rfl (by decide)) _, h.rr.setOther (h.dif.ne 2 5 rfl rfl (by decide)) _, h.rp.setOther (h.dif.ne 3 5 rfl rfl (by decide)) _, h.rh.setOther (h.dif.ne 4 5 rfl rfl (by decide)) _, (h.rs.set x _).congr fun y _ => intF_set Z x v y, h.ru.setOther (h.dif.ne 6 5 rfl rfl (by decide)) _⟩
theorem TrM.turnU (h : TrM w b n z L R P H Z up rt) (hi : Inner ⟨b.u, b.u + 1⟩ w w') (hr : Row w' b.u (2 * n) (setC up' rt')) : TrM w' b n z L R P H Z up' rt' := by
  have k : ∀ g, g ≠ b.u → ¬ (Zone.mk b.u (b.u + 1)).has g := fun g hg c => by unfold Zone.has at c; simp at c; omega
  exact ⟨h.dif, h.st.inner hi (k _ (h.dif.ne 0 6 rfl rfl (by decide))), h.rl.inner hi (k _ (h.dif.ne 1 6 rfl rfl (by decide))), h.rr.inner hi (k _ (h.dif.ne 2 6 rfl rfl (by decide))), h.rp.inner hi (k _ (h.dif.ne 3 6 rfl rfl (by decide))), h.rh.inner hi (k _ (h.dif.ne 4 6 rfl rfl (by decide))), h.rs.inner hi (k _ (h.dif.ne 5 6 rfl rfl (by decide))), hr⟩
theorem TrM.setUp (h : TrM w b n z L R P H Z up rt) (x v : Nat) : TrM (w.setCell ⟨b.u, x * 2, none⟩ (.int .i64 (v : Nat))) b n z L R P H Z (fun i => if i = x then v else up i) rt :=
  h.turnU ((Inner.refl _ _).setCell (p := ⟨b.u, x * 2, none⟩) ⟨Nat.le_refl _, Nat.lt_succ_self _⟩ _) (setC_setUp h.ru x v)
theorem TrM.setRt (h : TrM w b n z L R P H Z up rt) (x v : Nat) : TrM (w.setCell ⟨b.u, x * 2 + 1, none⟩ (.int .i64 (v : Nat))) b n z L R P H Z up (fun i => if i = x then v else rt i) :=
  h.turnU ((Inner.refl _ _).setCell (p := ⟨b.u, x * 2 + 1, none⟩) ⟨Nat.le_refl _, Nat.lt_succ_self _⟩ _) (setC_setRt h.ru x v)
theorem TrM.fields (h : TrM w b n z L R P H Z up rt) : w.cell? ⟨b.t, 1, none⟩ = some (.slice (some ⟨b.l, 0, none⟩) z z) ∧ w.cell? ⟨b.t, 2, none⟩ = some (.slice (some ⟨b.r, 0, none⟩) z z) ∧ w.cell? ⟨b.t, 3, none⟩ = some (.slice (some ⟨b.p, 0, none⟩) z z) ∧ w.cell? ⟨b.t, 4, none⟩ = some (.slice (some ⟨b.h, 0, none⟩) z z) ∧ w.cell? ⟨b.t, 5, none⟩ = some (.slice (some ⟨b.s, 0, none⟩) z z) :=
  ⟨h.st.cell (i := 1) (by omega), h.st.cell (i := 2) (by omega), h.st.cell (i := 3) (by omega), h.st.cell (i := 4) (by omega), h.st.cell (i := 5) (by omega)⟩
end
end Go.Proofs.YtibdggbejogciaaGreat
