/- Plain mathematics of the depth-first search: what is known when a vertex is left; which edges are bridges. Conditions: the graph is one that is accepted. -/
import Derived.Test.YtcpikabhcjkkmaaBrD
namespace Go.Proofs.Ytcpikabhcjkkmaa

/-- all edges but one, and all edges that do not touch a vertex -/
def noE (E : List Ed) (i : Nat) : Nat → Prop := fun j => j < E.length ∧ j ≠ i
def noV (E : List Ed) (x : Nat) : Nat → Prop := fun j => j < E.length ∧ (edP E j).1 ≠ x ∧ (edP E j).2 ≠ x
def Bri (E : List Ed) (i : Nat) : Prop := i < E.length ∧ ¬ CI E (noE E i) (edP E i).1 (edP E i).2
theorem ci_lnk {E : List Ed} {S : Nat → Prop} {i a b : Nat} (h : Lnk E i a b) : CI E S (edP E i).1 (edP E i).2 ↔ CI E S a b := by
  rcases h with e | e <;> rw [e]
  exact ⟨CI.symm, CI.symm⟩
theorem ci_cross {E : List Ed} {S T : Nat → Prop} {a b : Nat} (h : CI E S a b) (ha : T a) (hb : ¬ T b) : ∃ i x y, S i ∧ Lnk E i x y ∧ T x ∧ ¬ T y := by
  induction h with
  | refl => exact absurd ha hb
  | @step b c i _ hi hl ih =>
    by_cases hT : T b
    · exact ⟨i, b, c, hi, hl, hT, hb⟩
    · exact ih hT
theorem noV_of {E : List Ed} {v x y i : Nat} (hi : i < E.length) (hl : Lnk E i x y) (hx : x ≠ v) (hy : y ≠ v) : noV E v i := ⟨hi, lnk_back (P := fun z => z ≠ v) hl hx hy⟩
/-- what is known of a vertex v that is left for u, and of the part T that was found below it -/
structure Cert (E : List Ed) (u v e : Nat) (rch pas : Bool) (T : Nat → Prop) : Prop where
  he : e < E.length
  lnk : Lnk E e u v
  tv : T v
  tu : ¬ T u
  con : ∀ x, T x → CI E (fun i => i < E.length ∧ T (edP E i).1 ∧ T (edP E i).2) v x
  out : ∀ i x y, i < E.length → Lnk E i x y → T x → ¬ T y → CI E (fun i => i < E.length ∧ ¬ T (edP E i).1 ∧ ¬ T (edP E i).2) u y
  rch : rch = true ↔ ∃ i x y, i < E.length ∧ i ≠ e ∧ Lnk E i x y ∧ T x ∧ ¬ T y
  pas : pas = true ↔ ∃ i x y, i < E.length ∧ Lnk E i x y ∧ T x ∧ ¬ T y ∧ y ≠ u
section
variable {n : Nat} {E : List Ed} {s s' : Dfs} {b b' : Nat} {p q : Pl} {r : List Pl}
theorem top_met (G : GOk n E) (h : Inv n E s) (hs : s.stk = p :: r) (hn : p.nx = (adj E p.v).length) {i x y : Nat} (hi : i < E.length) (hl : Lnk E i x y) (hx : s.fnd p.v ≤ s.fnd x) : s.met i = true := by
  have hlv := h.lev
  rw [hs] at hlv
  have hia := inc_lnk G hi hl
  by_cases c : p.v = x
  · subst c; exact all_met h (by rw [hs]; exact List.mem_cons_self ..) hn hia
  · refine h.fin x i (by have := hlv.1.pos; omega) (fun p' hp' e => ?_) hia
    rw [hs] at hp'
    rcases List.mem_cons.1 hp' with rfl | hp'
    · exact c e
    · have := hlv.below p' hp'; rw [e] at this; omega
theorem ends_ne (G : GOk n E) {i x y : Nat} (hi : i < E.length) (hl : Lnk E i x y) : x ≠ y ∧ x < n ∧ y < n := by
  obtain ⟨a, b, ha, hb, h1, h2, h3⟩ := G.nats hi
  have he : edP E i = (a, b) := by unfold edP; rw [ha, hb]; rfl
  unfold Lnk at hl
  rw [he] at hl
  simp at hl
  omega
/-- an edge that leads out of what was found since the top of the stack ends below it on the stack -/
theorem top_out (G : GOk n E) (h : Inv n E s) (hs : s.stk = p :: r) (hn : p.nx = (adj E p.v).length) {i x y : Nat} (hi : i < E.length) (hl : Lnk E i x y) (hx : s.fnd p.v ≤ s.fnd x) (hy : s.fnd y < s.fnd p.v) : ∃ q, q ∈ r ∧ q.v = y := by
  have hlv := h.lev
  rw [hs] at hlv
  obtain ⟨q, h1, h2⟩ := hlv.1.out i x y (top_met G h hs hn hi hl hx) hl hx hy
  rw [hs] at h1
  rcases List.mem_cons.1 h1 with rfl | h1
  · rw [h2] at hy; omega
  · exact ⟨q, h1, h2⟩
theorem cert_up (G : GOk n E) (h : Inv n E s) (hs : s.stk = p :: q :: r) (hn : p.nx = (adj E p.v).length) : Cert E q.v p.v p.e.toNat (decide (s.low p.v ≤ s.fnd q.v)) (decide (s.low p.v < s.fnd q.v)) (fun x => s.fnd p.v ≤ s.fnd x) := by
  have hlv := h.lev
  rw [hs] at hlv
  obtain ⟨k1, k2, k3, k4, k5⟩ := hlv.1.par q r rfl
  have hm : ∀ i, s.met i = true → i < E.length := fun i hi => (h.ml i hi).1
  refine ⟨hm _ k4, k5, Nat.le_refl _, by omega, hlv.1.con, fun i x y hi hl hx hy => ?_, ?_, ?_⟩
  · obtain ⟨q', h1, rfl⟩ := top_out G h hs hn hi hl hx (by omega)
    refine (Stk.chain (k := s.fnd p.v) hm hlv.2 (by omega) q' h1).mono fun j hj => ⟨hj.2.1, by have := hj.2.2.1; omega, by have := hj.2.2.2; omega⟩
  · rw [decide_eq_true_eq]
    constructor
    · intro hle
      obtain ⟨i, x, y, h1, h2, h3, h4, h5, h6⟩ := hlv.1.f1 (by omega)
      exact ⟨i, x, y, hm _ h1, by omega, h2, h4, by omega⟩
    · rintro ⟨i, x, y, h1, h2, h3, h4, h5⟩
      have := hlv.1.f2 i x y (top_met G h hs hn h1 h3 h4) h3 (by omega) h4 (by have := h.cn x; omega) (by omega)
      obtain ⟨q', h6, rfl⟩ := top_out G h hs hn h1 h3 h4 (by omega)
      have := stk_le hlv.2 h6
      omega
  · rw [decide_eq_true_eq]
    constructor
    · intro hle
      obtain ⟨i, x, y, h1, h2, h3, h4, h5, h6⟩ := hlv.1.f1 (by omega)
      exact ⟨i, x, y, hm _ h1, h2, h4, by omega, fun c => by rw [c] at h6; omega⟩
    · rintro ⟨i, x, y, h1, h3, h4, h5, h6⟩
      have h2 : (i : Int) ≠ p.e := fun e => by
        rw [← e, Int.toNat_natCast] at k5
        rcases lnk_two h3 k5 with ⟨rfl, rfl⟩ | ⟨rfl, rfl⟩
        · omega
        · exact h6 rfl
      have := hlv.1.f2 i x y (top_met G h hs hn h1 h3 h4) h3 h2 h4 (by have := h.cn x; omega) (by omega)
      obtain ⟨q', h7, rfl⟩ := top_out G h hs hn h1 h3 h4 (by omega)
      have h8 := stk_le hlv.2 h7
      have : s.fnd q'.v ≠ s.fnd q.v := fun c => h6 (h.inj _ _ (hlv.2.pos q' h7) c)
      omega
variable {u v e : Nat} {rch pas : Bool} {T : Nat → Prop}
/-- a tree edge is a bridge if what is below it does not reach above it by other edges -/
theorem Cert.bri (C : Cert E u v e rch pas T) : rch = false ↔ Bri E e := by
  rw [Bri, ci_lnk C.lnk]
  constructor
  · intro hr
    refine ⟨C.he, fun hc => ?_⟩
    obtain ⟨i, x, y, h1, h2, h3, h4⟩ := ci_cross hc.symm C.tv C.tu
    have := C.rch.2 ⟨i, x, y, h1.1, h1.2, h2, h3, h4⟩
    rw [hr] at this; cases this
  · rintro ⟨_, hc⟩
    cases rch with
    | false => rfl
    | true =>
      exfalso
      obtain ⟨i, x, y, h1, h2, h3, h4, h5⟩ := C.rch.1 rfl
      have ne1 : ∀ j, T (edP E j).1 → T (edP E j).2 → j ≠ e := fun j k1 k2 c => by
        subst c
        exact C.tu (lnk_and (P := T) C.lnk k1 k2).1
      have ne2 : ∀ j, ¬ T (edP E j).1 → ¬ T (edP E j).2 → j ≠ e := fun j k1 k2 c => by
        subst c
        exact (lnk_and (P := fun z => ¬ T z) C.lnk k1 k2).2 C.tv
      have a1 : CI E (noE E e) v x := (C.con x h4).mono fun j hj => ⟨hj.1, ne1 j hj.2.1 hj.2.2⟩
      have a2 : CI E (noE E e) u y := (C.out i x y h1 h3 h4 h5).mono fun j hj => ⟨hj.1, ne2 j hj.2.1 hj.2.2⟩
      exact hc (a2.trans ((CI.one (i := i) ⟨h1, h2⟩ h3.symm).trans a1.symm))
/-- what the search has told: the edges by which vertices were found, and the bridges -/
def lvE (evs : List Ev) : List Nat := evs.filterMap fun | .leave _ _ e _ _ => some e | .meet _ => none
def brE (evs : List Ev) : List Nat := evs.filterMap fun | .leave _ _ e rch _ => if rch then none else some e | .meet _ => none
def stkE : List Pl → List Nat
  | p :: q :: r => p.e.toNat :: stkE (q :: r)
  | _ => []
theorem stkE_pl {v : Nat} {e : Int} {k k' : Nat} {r : List Pl} : stkE (⟨v, e, k⟩ :: r) = stkE (⟨v, e, k'⟩ :: r) := by cases r <;> rfl
structure BrI (E : List Ed) (s : Dfs) (evs : List Ev) : Prop where
  nd : (stkE s.stk ++ lvE evs).Nodup
  met : ∀ i, i ∈ stkE s.stk ++ lvE evs → s.met i = true
  rest : ∀ i, s.met i = true → i ∈ stkE s.stk ++ lvE evs ∨ ¬ Bri E i
  is : ∀ u v e rch pas, Ev.leave u v e rch pas ∈ evs → (rch = false ↔ Bri E e)
theorem lvE_meet (evs : List Ev) (i : Nat) : lvE (evs ++ [.meet i]) = lvE evs := by simp [lvE]
theorem lvE_leave (evs : List Ev) (u v e : Nat) (a b : Bool) : lvE (evs ++ [.leave u v e a b]) = lvE evs ++ [e] := by simp [lvE]
theorem mem_meet {evs : List Ev} {i u v e : Nat} {a b : Bool} (h : Ev.leave u v e a b ∈ evs ++ [.meet i]) : Ev.leave u v e a b ∈ evs := by simpa using h
theorem Run.br (G : GOk n E) {evs : List Ev} (h : Run n E s evs) : BrI E s evs := by
  induction h with
  | start => exact ⟨by simp [stkE, lvE], fun i hi => by simp [stkE, lvE] at hi, fun i hi => by simp at hi, fun _ _ _ _ _ h => by simp at h⟩
  | root r _ hs hr h0 ih =>
    obtain ⟨h1, h2, h3, h4⟩ := ih
    rw [hs] at h1 h2 h3
    exact ⟨h1, h2, h3, h4⟩
  | skip _ hs hi hm ih =>
    obtain ⟨h1, h2, h3, h4⟩ := ih
    rw [hs, stkE_pl (k' := _ + 1)] at h1 h2 h3
    exact ⟨h1, h2, h3, h4⟩
  | @down s evs p q i h' hs hi hm h0 ih =>
    obtain ⟨h1, h2, h3, h4⟩ := ih
    rw [hs, stkE_pl (k' := p.nx + 1)] at h1 h2 h3
    have hst : stkE (⟨oN E p.v i, i, 0⟩ :: ⟨p.v, p.e, p.nx + 1⟩ :: q) = i :: stkE (⟨p.v, p.e, p.nx + 1⟩ :: q) := by simp [stkE]
    refine ⟨?_, fun j hj => ?_, fun j hj => ?_, fun u v e a b hh => h4 u v e a b (mem_meet hh)⟩
    · dsimp only
      rw [hst, lvE_meet, List.cons_append, List.nodup_cons]
      exact ⟨fun c => (by have := h2 _ c; rw [hm] at this; cases this), h1⟩
    · dsimp only at hj ⊢
      rw [hst, lvE_meet, List.cons_append, List.mem_cons] at hj
      rcases hj with rfl | hj
      · exact upd_at _ _ _
      · exact met_upd (h2 j hj)
    · dsimp only at hj ⊢
      rw [hst, lvE_meet, List.cons_append, List.mem_cons]
      rcases met_or hj with hj | rfl
      · exact (h3 j hj).imp .inr id
      · exact .inl (.inl rfl)
  | @back s evs p q i h' hs hi hm h0 ih =>
    obtain ⟨h1, h2, h3, h4⟩ := ih
    have hI := h'.inv G
    have hb := (inv_back G hI hs hi hm h0).1
    obtain ⟨hil, hin⟩ := adj_get hi
    obtain ⟨hlk, hvt, -, -⟩ := oN_lnk G hil hin
    have hlv := hI.lev
    rw [hs] at hlv
    rw [hs, stkE_pl (k' := p.nx + 1)] at h1 h2 h3
    refine ⟨by dsimp only; rw [lvE_meet]; exact h1, fun j hj => ?_, fun j hj => ?_, fun u v e a b hh => h4 u v e a b (mem_meet hh)⟩
    · dsimp only at hj ⊢
      rw [lvE_meet] at hj
      exact met_upd (h2 j hj)
    · dsimp only at hj ⊢
      rw [lvE_meet]
      rcases met_or hj with hj | rfl
      · exact h3 j hj
      · refine .inr fun c => ?_
        obtain ⟨q', hq', e⟩ := hb
        have hc := Stk.chain (k := s.fnd p.v + 1) (fun i hi => (hI.ml i hi).1) hlv (Nat.lt_succ_self _) q' (List.mem_cons_of_mem _ hq')
        rw [e] at hc
        refine c.2 ((ci_lnk hlk).2 (hc.mono fun k hk => ⟨hk.2.1, fun c => ?_⟩))
        subst c
        have := hk.1
        rw [hm] at this; cases this
  | @up s evs p q r h' hs hn ih =>
    obtain ⟨h1, h2, h3, h4⟩ := ih
    have hI := h'.inv G
    have C := cert_up G hI hs hn
    have hst : stkE (p :: q :: r) = p.e.toNat :: stkE (q :: r) := rfl
    rw [hs, hst] at h1 h2 h3
    have hp : (stkE (q :: r) ++ (lvE evs ++ [p.e.toNat])).Perm (p.e.toNat :: stkE (q :: r) ++ lvE evs) := by
      rw [← List.append_assoc]
      exact (List.perm_append_comm).trans (by simp)
    refine ⟨?_, fun j hj => ?_, fun j hj => ?_, fun u v e a b hh => ?_⟩
    · dsimp only
      rw [lvE_leave]; exact hp.nodup_iff.2 h1
    · dsimp only at hj ⊢
      rw [lvE_leave] at hj; exact h2 j (hp.mem_iff.1 hj)
    · dsimp only at hj ⊢
      rw [lvE_leave, hp.mem_iff]; exact h3 j hj
    · rw [List.mem_append] at hh
      rcases hh with hh | hh
      · exact h4 u v e a b hh
      · simp only [List.mem_singleton, Ev.leave.injEq] at hh
        obtain ⟨rfl, rfl, rfl, rfl, rfl⟩ := hh
        exact C.bri
  | out _ hs hn ih =>
    obtain ⟨h1, h2, h3, h4⟩ := ih
    rw [hs] at h1 h2 h3
    exact ⟨h1, h2, h3, h4⟩
theorem brE_sub : ∀ evs : List Ev, (brE evs).Sublist (lvE evs)
  | [] => List.Sublist.slnil
  | .meet i :: evs => by
    have := brE_sub evs
    simpa [brE, lvE] using this
  | .leave u v e a b :: evs => by
    have := brE_sub evs
    cases a with
    | true => simp only [brE, lvE, List.filterMap_cons]; exact this.cons _
    | false => simp only [brE, lvE, List.filterMap_cons]; exact this.cons_cons _
theorem mem_brE {evs : List Ev} {i : Nat} : i ∈ brE evs ↔ ∃ u v pas, Ev.leave u v i false pas ∈ evs := by
  unfold brE
  rw [List.mem_filterMap]
  constructor
  · rintro ⟨x, hx, hh⟩
    cases x with
    | meet => cases hh
    | leave u v e rch pas =>
      cases rch with
      | true => cases hh
      | false => cases hh; exact ⟨u, v, pas, hx⟩
  · rintro ⟨u, v, pas, h⟩
    exact ⟨_, h, rfl⟩
theorem mem_lvE {evs : List Ev} {i : Nat} : i ∈ lvE evs ↔ ∃ u v rch pas, Ev.leave u v i rch pas ∈ evs := by
  unfold lvE
  rw [List.mem_filterMap]
  constructor
  · rintro ⟨x, hx, hh⟩
    cases x with
    | meet => cases hh
    | leave u v e rch pas => cases hh; exact ⟨u, v, rch, pas, hx⟩
  · rintro ⟨u, v, rch, pas, h⟩
    exact ⟨_, h, rfl⟩
/-- behind the search: all is found -/
structure Done (n : Nat) (E : List Ed) (s : Dfs) (evs : List Ev) : Prop where
  run : Run n E s evs
  stk : s.stk = []
  all : ∀ x, x < n → 0 < s.fnd x
theorem Done.met (G : GOk n E) {evs : List Ev} (D : Done n E s evs) {i : Nat} (hi : i < E.length) : s.met i = true := by
  obtain ⟨a, b, ha, hb, h1, h2, h3⟩ := G.nats hi
  exact (D.run.inv G).fin a i (D.all a h1) (by rw [D.stk]; intro p hp; exact absurd hp (by simp)) (mem_adj.2 ⟨hi, inc_u ha⟩)
theorem Done.br (G : GOk n E) {evs : List Ev} (D : Done n E s evs) : (brE evs).Nodup ∧ ∀ i, i ∈ brE evs ↔ Bri E i := by
  obtain ⟨h1, h2, h3, h4⟩ := D.run.br G
  rw [D.stk] at h1 h3
  simp only [stkE, List.nil_append] at h1 h3
  refine ⟨(brE_sub evs).nodup h1, fun i => ⟨fun h => ?_, fun h => ?_⟩⟩
  · obtain ⟨u, v, pas, hm⟩ := mem_brE.1 h
    exact (h4 _ _ _ _ _ hm).1 rfl
  · have hm := (h3 i (D.met G h.1)).resolve_right (fun c => c h)
    obtain ⟨u, v, rch, pas, hm⟩ := mem_lvE.1 hm
    have := (h4 _ _ _ _ _ hm).2 h
    subst this
    exact mem_brE.2 ⟨u, v, pas, hm⟩
end
end Go.Proofs.Ytcpikabhcjkkmaa
