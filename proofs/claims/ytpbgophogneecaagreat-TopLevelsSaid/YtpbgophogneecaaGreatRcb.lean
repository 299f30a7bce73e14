/- Plain mathematics of parents that only go down to the least element of a class. No conditions. -/
import Derived.Test.YtpbgophogneecaaGreatRca
import Derived.Test.YtpbgophogneecaaGreatDsa
namespace Go.Proofs.YtpbgophogneecaaGreat

/-- parents that lead down to the least element of each class -/
structure UL (n : Nat) (up lab : Nat → Nat) : Prop where
  le : ∀ i, i < n → up i ≤ i
  par : ∀ i, i < n → lab (up i) = lab i
  root : ∀ i, i < n → up i = i → lab i = i
section
variable {n : Nat} {up lab : Nat → Nat} {a b : Nat}
theorem UL.start (n : Nat) : UL n id id := ⟨fun _ _ => Nat.le_refl _, fun _ _ => rfl, fun _ _ _ => rfl⟩
/-- a least element is its own parent -/
theorem UL.least (U : UL n up lab) (K : LabOk lab) (ha : a < n) (h : lab a = a) : up a = a := by
  have h1 := U.le a ha
  have h2 := U.par a ha
  have h3 := K.le (up a)
  omega
theorem UL.halve (U : UL n up lab) (ha : a < n) (hr : up a ≠ a) : UL n (fun i => if i = a then up (up a) else up i) lab := by
  have h1 := U.le a ha
  have hp : up a < n := by omega
  have h2 := U.le _ hp
  refine ⟨fun i hi => ?_, fun i hi => ?_, fun i hi h => ?_⟩
  · (try dsimp only); split
    · rename_i e; omega
    · exact U.le i hi
  · (try dsimp only); split
    · rename_i e; rw [U.par _ hp, e, U.par _ ha]
    · exact U.par i hi
  · (try dsimp only at h); split at h
    · rename_i e; omega
    · exact U.root i hi h
/-- the class of b is hung below a -/
theorem UL.hang {E : List Ed} {f : List Nat} {i : Nat} (U : UL n up (lbI E f i)) (F : Fo n E f) (hi : i < f.length) : UL n (fun x => if x = mB E f i then mA E f i else up x) (lbI E f (i + 1)) := by
  have hm := F.mlt hi
  refine ⟨fun x hx => ?_, fun x hx => ?_, fun x hx h => ?_⟩
  · (try dsimp only); split
    · omega
    · exact U.le x hx
  · (try dsimp only); split
    · rename_i e; rw [e, mB_next hi, mA_next F hi]
    · exact lbI_eq (i := i) (Nat.le_succ i) (U.par x hx)
  · (try dsimp only at h); split at h
    · omega
    · rename_i e
      have h1 := U.root x hx h
      rw [lbI_step hi, h1, if_neg e]
end
end Go.Proofs.YtpbgophogneecaaGreat

/- The walk of find of package recon. Conditions: the parents lead down to the least element. -/
namespace Go.Proofs.YtpbgophogneecaaGreat
open Go.RowKit

/-- pairs of numbers, one after the other -/
def setC (up rt : Nat → Nat) (q : Nat) : Value := .int .i64 ((if q % 2 = 0 then up (q / 2) else rt (q / 2) : Nat) : Int)
theorem setC_up (up rt : Nat → Nat) (x : Nat) : setC up rt (x * 2) = .int .i64 (up x : Nat) := by
  unfold setC; rw [if_pos (by omega), show x * 2 / 2 = x by omega]
theorem setC_rt (up rt : Nat → Nat) (x : Nat) : setC up rt (x * 2 + 1) = .int .i64 (rt x : Nat) := by
  unfold setC; rw [if_neg (by omega), show (x * 2 + 1) / 2 = x by omega]
section
variable {w : World} {g n : Nat} {up rt : Nat → Nat}
theorem setC_setUp (h : Row w g (2 * n) (setC up rt)) (x v : Nat) : Row (w.setCell ⟨g, x * 2, none⟩ (.int .i64 (v : Nat))) g (2 * n) (setC (fun i => if i = x then v else up i) rt) :=
  (h.set (x * 2) _).congr fun q _ => by
    by_cases e : q = x * 2
    · rw [if_pos e, e, setC_up, if_pos rfl]
    · rw [if_neg e]
      unfold setC
      by_cases c : q % 2 = 0
      · rw [if_pos c, if_pos c]; dsimp only; rw [if_neg (by omega)]
      · rw [if_neg c, if_neg c]
theorem setC_setRt (h : Row w g (2 * n) (setC up rt)) (x v : Nat) : Row (w.setCell ⟨g, x * 2 + 1, none⟩ (.int .i64 (v : Nat))) g (2 * n) (setC up (fun i => if i = x then v else rt i)) :=
  (h.set (x * 2 + 1) _).congr fun q _ => by
    by_cases e : q = x * 2 + 1
    · rw [if_pos e, e, setC_rt, if_pos rfl]
    · rw [if_neg e]
      unfold setC
      by_cases c : q % 2 = 0
      · rw [if_pos c, if_pos c]
      · rw [if_neg c, if_neg c]; dsimp only; rw [if_neg (by omega)]
theorem setC_cell (h : Row w g (2 * n) (setC up rt)) {x : Nat} (hx : x < n) : w.cell? ⟨g, x * 2, none⟩ = some (.int .i64 (up x : Nat)) := by rw [h.cell (by omega), setC_up]
theorem setC_cell1 (h : Row w g (2 * n) (setC up rt)) {x : Nat} (hx : x < n) : w.cell? ⟨g, x * 2 + 1, none⟩ = some (.int .i64 (rt x : Nat)) := by rw [h.cell (by omega), setC_rt]
end
/-- what find answers -/
def FndRes (sb n x : Nat) (rt lab : Nat → Nat) (w : World) (e : Ending) (w' : World) : Prop :=
  e = .returned (.int .i64 (lab x : Nat)) ∧ ∃ up', Row w' sb (2 * n) (setC up' rt) ∧ UL n up' lab ∧ Inner ⟨sb, sb + 1⟩ w w'
set_option maxRecDepth 100000 in
set_option maxHeartbeats 1000000 in
theorem rfind_any (sb n x : Nat) (up rt lab : Nat → Nat) (w : World) (hR : Row w sb (2 * n) (setC up rt)) (U : UL n up lab) (K : LabOk lab) (hx : x < n) :
    Calls Tryz.prog 39 #[.slice (some ⟨sb, 0, none⟩) n n, .int .i64 (x : Nat)] w (FndRes sb n x rt lab w) := by
  have HR := Lib.hid hR; have HU := Lib.hid U; have HK := Lib.hid K
  clear hR U K
  go_enter Tryz.func39, Tryz.ntmps39
  go_wp2_with fail
  go_loopw [1] (fun i wr => ∃ (y : Nat) (u : Nat → Nat), y < n ∧ i = .int .i64 (y : Nat) ∧ Hid (lab y = lab x) ∧ Hid (Row wr sb (2 * n) (setC u rt)) ∧ Hid (UL n u lab) ∧ Hid (Inner ⟨sb, sb + 1⟩ w wr)) (fun i _ => (intOf i).toNat)
  case atStart => exact ⟨x, up, hx, rfl, Lib.hid rfl, HR, HU, Lib.hid (Inner.refl _ _)⟩
  case round =>
    clear HR HU
    obtain ⟨y, u, hy, rfl, HL, HR, HU, HI⟩ := hrel
    have c1 := setC_cell HR.out hy
    have hyi : (0 : Int) ≤ y ∧ (y : Int) < n := by omega
    by_cases hr : u y = y
    · have hz : (((u y : Nat) : Int) != (y : Int)) = false := by simp [hr]
      have HQ := Lib.hid (show lab x = y by rw [← HL.out]; exact HU.out.root y hy hr)
      generalize u y = p at c1 hz
      clear hr
      go_wp2_with fail
      go_ret
      exact ⟨by rw [HQ.out]; rfl, u, HR.out, HU.out, HI.out⟩
    · have hz : (((u y : Nat) : Int) != (y : Int)) = true := by simp; omega
      have h1 := HU.out.le y hy
      have hp : u y < n := by omega
      have c2 := setC_cell HR.out hp
      have h2 := HU.out.le _ hp
      have hpi : (0 : Int) ≤ (u y : Nat) ∧ ((u y : Nat) : Int) < n := by omega
      have f1 := HR.out.frozen (y * 2)
      have R2 := setC_setUp HR.out y (u (u y))
      have HU2 := Lib.hid (HU.out.halve hy hr)
      have HL2 := Lib.hid (show lab (u (u y)) = lab x by rw [HU.out.par _ hp, HU.out.par _ hy, HL.out])
      have c3 : (wr.setCell ⟨sb, y * 2, none⟩ (.int .i64 (u (u y) : Nat))).cell? ⟨sb, y * 2, none⟩ = some (.int .i64 (u (u y) : Nat)) := by rw [setC_cell R2 hy, if_pos rfl]
      have HR2 := Lib.hid R2
      have hlt : u (u y) < y := by omega
      have hpp : u (u y) < n := by omega
      have HI2 := Lib.hid (HI.out.setCell (p := ⟨sb, y * 2, none⟩) ⟨Nat.le_refl _, Nat.lt_succ_self _⟩ (.int .i64 (u (u y) : Nat)))
      clear R2 HR HU HL HI h1 h2 hr
      go_wp2_with fail
      go_still_tail 13, (by kernel_rfl)
      go_wp2_with fail
      go_roundw
      case rel => exact ⟨u (u y), _, hpp, rfl, HL2, Lib.hid (HR2.out.drewN 1), HU2, Lib.hid HI2.out.drew⟩
      case measure => simpa only [intOf, Int.toNat_natCast] using hlt
end Go.Proofs.YtpbgophogneecaaGreat

/- The rows of a tree in memory while it is built. No conditions. -/
namespace Go.Proofs.YtpbgophogneecaaGreat
open Go.RowKit

/-- the blocks of a tree, and of the sets that help to build it -/
structure Blk where
  t : Nat
  l : Nat
  r : Nat
  p : Nat
  h : Nat
  s : Nat
  u : Nat
def Blk.list (b : Blk) : List Nat := [b.t, b.l, b.r, b.p, b.h, b.s, b.u]
/-- no two alike -/
def Dif (l : List Nat) : Prop := ∀ i j a b : Nat, l[i]? = some a → l[j]? = some b → i ≠ j → a ≠ b
theorem Dif.ne {l : List Nat} (h : Dif l) (i j : Nat) {a b : Nat} (hi : l[i]? = some a) (hj : l[j]? = some b) (hij : i ≠ j) : a ≠ b := h i j a b hi hj hij
/-- the value of a tree -/
def trV (n z : Nat) (b : Blk) : Array Value := #[.int .i64 (n : Nat), .slice (some ⟨b.l, 0, none⟩) z z, .slice (some ⟨b.r, 0, none⟩) z z, .slice (some ⟨b.p, 0, none⟩) z z, .slice (some ⟨b.h, 0, none⟩) z z, .slice (some ⟨b.s, 0, none⟩) z z]
def trC (n z : Nat) (b : Blk) (i : Nat) : Value := (trV n z b).getD i undef
def intF (f : Nat → Int) (x : Nat) : Value := .int .i64 (f x)
structure TrM (w : World) (b : Blk) (n z : Nat) (L R P H Z : Nat → Int) (up rt : Nat → Nat) : Prop where
  dif : Dif b.list
  st : Row w b.t 6 (trC n z b)
  rl : Row w b.l z (intF L)
  rr : Row w b.r z (intF R)
  rp : Row w b.p z (intF P)
  rh : Row w b.h z (intF H)
  rs : Row w b.s z (intF Z)
  ru : Row w b.u (2 * n) (setC up rt)
def updI (f : Nat → Int) (x : Nat) (v : Int) (y : Nat) : Int := if y = x then v else f y
theorem intF_set (f : Nat → Int) (x : Nat) (v : Int) (y : Nat) : (if y = x then Value.int .i64 v else intF f y) = intF (updI f x v) y := by
  unfold intF updI; by_cases c : y = x <;> simp [c]
section
variable {w w' : World} {b : Blk} {n z : Nat} {L R P H Z L' R' P' H' Z' : Nat → Int} {up rt up' rt' : Nat → Nat}
theorem TrM.drewN (h : TrM w b n z L R P H Z up rt) (q : Nat) : TrM (w.drewN q) b n z L R P H Z up rt := ⟨h.dif, h.st, h.rl, h.rr, h.rp, h.rh, h.rs, h.ru⟩
theorem TrM.drew (h : TrM w b n z L R P H Z up rt) : TrM w.drew b n z L R P H Z up rt := ⟨h.dif, h.st, h.rl, h.rr, h.rp, h.rh, h.rs, h.ru⟩
theorem TrM.congr (h : TrM w b n z L R P H Z up rt) (e1 : ∀ i, i < z → L i = L' i) (e2 : ∀ i, i < z → R i = R' i) (e3 : ∀ i, i < z → P i = P' i) (e4 : ∀ i, i < z → H i = H' i) (e5 : ∀ i, i < z → Z i = Z' i) : TrM w b n z L' R' P' H' Z' up rt :=
  ⟨h.dif, h.st, h.rl.congr fun i hi => by unfold intF; rw [e1 i hi], h.rr.congr fun i hi => by unfold intF; rw [e2 i hi], h.rp.congr fun i hi => by unfold intF; rw [e3 i hi], h.rh.congr fun i hi => by unfold intF; rw [e4 i hi], h.rs.congr fun i hi => by unfold intF; rw [e5 i hi], h.ru⟩
theorem TrM.congrU (h : TrM w b n z L R P H Z up rt) (e1 : ∀ i, i < n → up i = up' i) (e2 : ∀ i, i < n → rt i = rt' i) : TrM w b n z L R P H Z up' rt' :=
  ⟨h.dif, h.st, h.rl, h.rr, h.rp, h.rh, h.rs, h.ru.congr fun q hq => by unfold setC; rw [e1 (q / 2) (by omega), e2 (q / 2) (by omega)]⟩
theorem TrM.setL (h : TrM w b n z L R P H Z up rt) (x : Nat) (v : Int) : TrM (w.setCell ⟨b.l, x, none⟩ (.int .i64 v)) b n z (updI L x v) R P H Z up rt :=
  ⟨h.dif, h.st.setOther (h.dif.ne 0 1 rfl rfl (by decide)) _, (h.rl.set x _).congr fun y _ => intF_set L x v y, h.rr.setOther (h.dif.ne 2 1 rfl rfl (by decide)) _, h.rp.setOther (h.dif.ne 3 1 rfl rfl (by decide)) _, h.rh.setOther (h.dif.ne 4 1 rfl rfl (by decide)) _, h.rs.setOther (h.dif.ne 5 1 rfl rfl (by decide)) _, h.ru.setOther (h.dif.ne 6 1 rfl rfl (by decide)) _⟩
theorem TrM.setR (h : TrM w b n z L R P H Z up rt) (x : Nat) (v : Int) : TrM (w.setCell ⟨b.r, x, none⟩ (.int .i64 v)) b n z L (updI R x v) P H Z up rt :=
  ⟨h.dif, h.st.setOther (h.dif.ne 0 2 rfl rfl (by decide)) _, h.rl.setOther (h.dif.ne 1 2 rfl rfl (by decide)) _, (h.rr.set x _).congr fun y _ => intF_set R x v y, h.rp.setOther (h.dif.ne 3 2 rfl rfl (by decide)) _, h.rh.setOther (h.dif.ne 4 2 rfl rfl (by decide)) _, h.rs.setOther (h.dif.ne 5 2 rfl rfl (by decide)) _, h.ru.setOther (h.dif.ne 6 2 rfl rfl (by decide)) _⟩
theorem TrM.setP (h : TrM w b n z L R P H Z up rt) (x : Nat) (v : Int) : TrM (w.setCell ⟨b.p, x, none⟩ (.int .i64 v)) b n z L R (updI P x v) H Z up rt :=
  ⟨h.dif, h.st.setOther (h.dif.ne 0 3 rfl rfl (by decide)) _, h.rl.setOther (h.dif.ne 1 3 rfl rfl (by decide)) _, h.rr.setOther (h.dif.ne 2 3 rfl rfl (by decide)) _, (h.rp.set x _).congr fun y _ => intF_set P x v y, h.rh.setOther (h.dif.ne 4 3 rfl rfl (by decide)) _, h.rs.setOther (h.dif.ne 5 3 rfl rfl (by decide)) _, h.ru.setOther (h.dif.ne 6 3 rfl rfl (by decide)) _⟩
theorem TrM.setH (h : TrM w b n z L R P H Z up rt) (x : Nat) (v : Int) : TrM (w.setCell ⟨b.h, x, none⟩ (.int .i64 v)) b n z L R P (updI H x v) Z up rt :=
  ⟨h.dif, h.st.setOther (h.dif.ne 0 4 rfl rfl (by decide)) _, h.rl.setOther (h.dif.ne 1 4 rfl rfl (by decide)) _, h.rr.setOther (h.dif.ne 2 4 rfl rfl (by decide)) _, h.rp.setOther (h.dif.ne 3 4 rfl rfl (by decide)) _, (h.rh.set x _).congr fun y _ => intF_set H x v y, h.rs.setOther (h.dif.ne 5 4 rfl rfl (by decide)) _, h.ru.setOther (h.dif.ne 6 4 rfl rfl (by decide)) _⟩
theorem TrM.setS (h : TrM w b n z L R P H Z up rt) (x : Nat) (v : Int) : TrM (w.setCell ⟨b.s, x, none⟩ (.int .i64 v)) b n z L R P H (updI Z x v) up rt :=
  ⟨h.dif, h.st.setOther (h.dif.ne 0 5 rfl rfl (by decide)) _, h.rl.setOther (h.dif.ne 1 5 rfl rfl (by decide)) _, h.rr.setOther (h.dif.ne 2 5 rfl rfl (by decide)) _, h.rp.setOther (h.dif.ne 3 5 rfl rfl (by decide)) _, h.rh.setOther (h.dif.ne 4 5 rfl rfl (by decide)) _, (h.rs.set x _).congr fun y _ => intF_set Z x v y, h.ru.setOther (h.dif.ne 6 5 rfl rfl (by decide)) _⟩
theorem TrM.turnU (h : TrM w b n z L R P H Z up rt) (hi : Inner ⟨b.u, b.u + 1⟩ w w') (hr : Row w' b.u (2 * n) (setC up' rt')) : TrM w' b n z L R P H Z up' rt' := by
  have k : ∀ g, g ≠ b.u → ¬ (Zone.mk b.u (b.u + 1)).has g := fun g hg c => by unfold Zone.has at c; simp at c; omega
  exact ⟨h.dif, h.st.inner hi (k _ (h.dif.ne 0 6 rfl rfl (by decide))), h.rl.inner hi (k _ (h.dif.ne 1 6 rfl rfl (by decide))), h.rr.inner hi (k _ (h.dif.ne 2 6 rfl rfl (by decide))), h.rp.inner hi (k _ (h.dif.ne 3 6 rfl rfl (by decide))), h.rh.inner hi (k _ (h.dif.ne 4 6 rfl rfl (by decide))), h.rs.inner hi (k _ (h.dif.ne 5 6 rfl rfl (by decide))), hr⟩
theorem TrM.setUp (h : TrM w b n z L R P H Z up rt) (x v : Nat) : TrM (w.setCell ⟨b.u, x * 2, none⟩ (.int .i64 (v : Nat))) b n z L R P H Z (fun i => if i = x then v else up i) rt :=
  h.turnU ((Inner.refl _ _).setCell (p := ⟨b.u, x * 2, none⟩) ⟨Nat.le_refl _, Nat.lt_succ_self _⟩ _) (setC_setUp h.ru x v)
theorem TrM.setRt (h : TrM w b n z L R P H Z up rt) (x v : Nat) : TrM (w.setCell ⟨b.u, x * 2 + 1, none⟩ (.int .i64 (v : Nat))) b n z L R P H Z up (fun i => if i = x then v else rt i) :=
  h.turnU ((Inner.refl _ _).setCell (p := ⟨b.u, x * 2 + 1, none⟩) ⟨Nat.le_refl _, Nat.lt_succ_self _⟩ _) (setC_setRt h.ru x v)
theorem TrM.fields (h : TrM w b n z L R P H Z up rt) : w.cell? ⟨b.t, 1, none⟩ = some (.slice (some ⟨b.l, 0, none⟩) z z) ∧ w.cell? ⟨b.t, 2, none⟩ = some (.slice (some ⟨b.r, 0, none⟩) z z) ∧ w.cell? ⟨b.t, 3, none⟩ = some (.slice (some ⟨b.p, 0, none⟩) z z) ∧ w.cell? ⟨b.t, 4, none⟩ = some (.slice (some ⟨b.h, 0, none⟩) z z) ∧ w.cell? ⟨b.t, 5, none⟩ = some (.slice (some ⟨b.s, 0, none⟩) z z) :=
  ⟨h.st.cell (i := 1) (by omega), h.st.cell (i := 2) (by omega), h.st.cell (i := 3) (by omega), h.st.cell (i := 4) (by omega), h.st.cell (i := 5) (by omega)⟩
end
end Go.Proofs.YtpbgophogneecaaGreat
