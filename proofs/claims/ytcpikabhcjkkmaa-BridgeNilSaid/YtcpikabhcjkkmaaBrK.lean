/- Plain mathematics of the depth-first search: into how many parts a component falls without a vertex. Conditions: the graph is one that is accepted. -/
import Derived.Test.YtcpikabhcjkkmaaBrC
namespace Go.Proofs.Ytcpikabhcjkkmaa

/-- what a told event adds to a vertex's parts -/
def evP (x : Nat) : Ev → Nat
  | .meet _ => 0
  | .leave u v _ _ pas => (if v = x then 1 else 0) + (if pas = false ∧ u = x then 1 else 0)
def ptN (evs : List Ev) (x : Nat) : Nat := (evs.map (evP x)).sum
theorem ptN_snoc (evs : List Ev) (ev : Ev) (x : Nat) : ptN (evs ++ [ev]) x = ptN evs x + evP x ev := by simp [ptN]
theorem ptN_meet (evs : List Ev) (i x : Nat) : ptN (evs ++ [.meet i]) x = ptN evs x := by rw [ptN_snoc]; rfl
/-- neighbours of a vertex, no two of which are joined without it -/
structure Pt (E : List Ed) (x : Nat) (Ps : List Nat) : Prop where
  pw : Ps.Pairwise fun c d => ¬ CI E (noV E x) c d
  nb : ∀ c, c ∈ Ps → ∃ i, i < E.length ∧ Lnk E i x c
/-- the component of a vertex falls into k parts without it -/
def CutC (E : List Ed) (x k : Nat) : Prop := ∃ Ps : List Nat, Ps.length = k ∧ Pt E x Ps ∧ ∀ i y, i < E.length → Lnk E i x y → ∃ c, c ∈ Ps ∧ CI E (noV E x) c y
/-- the same for a vertex on the stack: the parts below it that are complete -/
def Op (E : List Ed) (s : Dfs) (b : Nat) (p : Pl) (r : List Pl) (k : Nat) : Prop := ∃ Ps : List Nat, Ps.length = k ∧ Pt E p.v Ps ∧ (∀ c, c ∈ Ps → s.fnd c < b) ∧ (∀ c, c ∈ Ps → ∀ y, CI E (noV E p.v) c y → s.fnd p.v < s.fnd y) ∧
  ∀ i y, i < E.length → Lnk E i p.v y → s.fnd p.v < s.fnd y → s.fnd y < b → (∃ c, c ∈ Ps ∧ CI E (noV E p.v) c y) ∨ ∃ q r', r = q :: r' ∧ CI E (noV E p.v) q.v y
def OpS (E : List Ed) (s : Dfs) (evs : List Ev) : Nat → List Pl → Prop
  | _, [] => True
  | b, p :: r => Op E s b p r (ptN evs p.v) ∧ OpS E s evs (s.fnd p.v) r
structure CutI (E : List Ed) (s : Dfs) (evs : List Ev) : Prop where
  op : OpS E s evs (s.cnt + 1) s.stk
  un : ∀ x, s.fnd x = 0 → ptN evs x = 0
  dn : ∀ x, 0 < s.fnd x → (∀ p, p ∈ s.stk → p.v ≠ x) → CutC E x (ptN evs x)
section
variable {n : Nat} {E : List Ed} {s s' : Dfs} {b b' : Nat} {p q : Pl} {r : List Pl} {evs evs' : List Ev}
theorem OpS.next {K : Nat} : ∀ {L : List Pl} {b : Nat}, OpS E s evs b L → b ≤ K → (∀ p r b, p ∈ L → b ≤ K → Op E s b p r (ptN evs p.v) → Op E s' b p r (ptN evs' p.v)) → (∀ p, p ∈ L → s'.fnd p.v = s.fnd p.v ∧ s.fnd p.v ≤ K) → OpS E s' evs' b L
  | [], _, _, _, _, _ => trivial
  | p :: r, b, h, hb, hL, hf => by
    obtain ⟨hp, hk⟩ := hf p (List.mem_cons_self ..)
    refine ⟨hL p r b (List.mem_cons_self ..) hb h.1, ?_⟩
    rw [hp]
    exact OpS.next h.2 hk (fun p' r' c hp' hc hl' => hL p' r' c (List.mem_cons_of_mem _ hp') hc hl') fun p' hp' => hf p' (List.mem_cons_of_mem _ hp')
theorem Op.next {k : Nat} (h : Op E s b p r k) (hp : 0 < s.fnd p.v) (hf : ∀ x, 0 < s.fnd x → s'.fnd x = s.fnd x) (hn : ∀ x, s.fnd x = 0 → s'.fnd x = 0 ∨ b ≤ s'.fnd x) : Op E s' b p r k := by
  obtain ⟨Ps, h1, h2, h3, h4, h5⟩ := h
  have hc : ∀ c, c ∈ Ps → 0 < s.fnd c := fun c hc => by have := h4 c hc c (.refl _); omega
  refine ⟨Ps, h1, h2, fun c hcm => by rw [hf c (hc c hcm)]; exact h3 c hcm, fun c hcm y hy => ?_, fun i y hi hl hy hb => ?_⟩
  · have := h4 c hcm y hy
    rw [hf _ hp, hf y (by omega)]; exact this
  · rw [hf _ hp] at hy
    rcases Nat.eq_zero_or_pos (s.fnd y) with h0 | h0
    · rcases hn y h0 with h6 | h6 <;> omega
    · rw [hf y h0] at hy hb
      exact h5 i y hi hl hy hb
theorem Op.pl {v k : Nat} {e : Int} {j j' : Nat} (h : Op E s b ⟨v, e, j⟩ r k) : Op E s b ⟨v, e, j'⟩ r k := h
/-- where a part goes on above the vertex above: there is a place below that, to which it is joined without it -/
theorem pas_up (G : GOk n E) (h : Inv n E s) (hs : s.stk = p :: q :: r) (hn : p.nx = (adj E p.v).length) (hp : s.low p.v < s.fnd q.v) : ∃ a r', r = a :: r' ∧ CI E (noV E q.v) p.v a.v := by
  have C := cert_up G h hs hn
  have hlv := h.lev
  rw [hs] at hlv
  have hlt := hlv.below q (List.mem_cons_self ..)
  obtain ⟨i, x, y, h1, h2, h3, h4, h5⟩ := C.pas.1 (decide_eq_true hp)
  obtain ⟨q', hq', rfl⟩ := top_out G h hs hn h1 h2 h3 (by omega)
  rcases List.mem_cons.1 hq' with rfl | hq'
  · exact absurd rfl h5
  · cases r with
    | nil => exact absurd hq' (by simp)
    | cons a r' =>
      have hlt2 := hlv.2.below a (List.mem_cons_self ..)
      have hc := Stk.chain (k := s.fnd q.v) (fun i hi => (h.ml i hi).1) hlv.2.2 hlt2 q' hq'
      have c1 : CI E (noV E q.v) p.v x := (C.con x h3).mono fun j hj => ⟨hj.1, fun c => by have := hj.2.1; rw [c] at this; omega, fun c => by have := hj.2.2; rw [c] at this; omega⟩
      have c2 : CI E (noV E q.v) a.v q'.v := hc.mono fun j hj => ⟨hj.2.1, fun c => by have := hj.2.2.1; rw [c] at this; omega, fun c => by have := hj.2.2.2; rw [c] at this; omega⟩
      exact ⟨a, r', rfl, c1.trans ((CI.one (noV_of h1 h2 (fun c => by rw [c] at h3; omega) h5) h2).trans c2.symm)⟩
/-- what is joined to a part without the place above stays within it -/
theorem part_shut {b1 : Bool} {T : Nat → Prop} {u v e : Nat} (C : Cert E u v e b1 false T) {x y : Nat} (hx : T x) (h : CI E (noV E u) x y) : T y := by
  by_cases c : T y
  · exact c
  · obtain ⟨i, x, z, h1, h2, h3, h4⟩ := ci_cross h hx c
    have := C.pas.2 ⟨i, x, z, h1.1, h2, h3, h4, fun e => ?_⟩
    · cases this
    · subst e
      exact (lnk_and (P := fun z' => z' ≠ z) h2 h1.2.1 h1.2.2).2 rfl
theorem Run.cut (G : GOk n E) {evs : List Ev} (h : Run n E s evs) : CutI E s evs := by
  induction h with
  | start => exact ⟨trivial, fun _ _ => rfl, fun _ h => absurd h (by simp)⟩
  | @root s evs t h' hs ht h0 ih =>
    have hI := h'.inv G
    have hne : ∀ x, 0 < s.fnd x → x ≠ t := fun x hx c => by subst c; omega
    refine ⟨⟨⟨[], (ih.un t h0).symm, ⟨List.Pairwise.nil, fun c hc => absurd hc (by simp)⟩, fun c hc => absurd hc (by simp), fun c hc => absurd hc (by simp), fun i y _ _ hy hb => ?_⟩, trivial⟩, fun x hx => ?_, fun x hx hnn => ?_⟩
    · exfalso
      dsimp only at hy
      rw [upd_at] at hy
      by_cases c : y = t
      · rw [c, upd_at] at hy; omega
      · rw [upd_ne _ _ c] at hy; have := hI.cn y; omega
    · dsimp only at hx
      by_cases c : x = t
      · rw [c, upd_at] at hx; omega
      · rw [upd_ne _ _ c] at hx; exact ih.un x hx
    · dsimp only at hx hnn
      have c : x ≠ t := fun c => hnn _ (List.mem_cons_self ..) c.symm
      rw [upd_ne _ _ c] at hx
      exact ih.dn x hx (by rw [hs]; intro p hp; exact absurd hp (by simp))
  | @skip s evs p q i h' hs hi hm ih =>
    obtain ⟨h1, h2, h3⟩ := ih
    have hI := h'.inv G
    have hlv := hI.lev
    rw [hs] at hlv h1 h3
    refine ⟨⟨h1.1, ?_⟩, h2, fun x hx hnn => h3 x hx fun p' hp' => ?_⟩
    · exact OpS.next h1.2 (K := s.fnd p.v) (Nat.le_refl _) (fun p' r b hp' _ ho => ho) fun p' hp' => ⟨rfl, Nat.le_of_lt (hlv.below p' hp')⟩
    · obtain ⟨q2, h4, h5⟩ := stk_sub (k := p.nx + 1) hp'
      rw [← h5]; exact hnn q2 h4
  | @down s evs p q i h' hs hi hm h0 ih =>
    obtain ⟨h1, h2, h3⟩ := ih
    have hI := h'.inv G
    have hlv := hI.lev
    rw [hs] at hlv h1 h3
    generalize oN E p.v i = t at *
    have hne : ∀ x, 0 < s.fnd x → x ≠ t := fun x hx c => by subst c; omega
    have hf : ∀ x, 0 < s.fnd x → upd s.fnd t (s.cnt + 1) x = s.fnd x := fun x hx => upd_ne _ _ (hne x hx)
    have hn : ∀ b, b ≤ s.cnt + 1 → ∀ x, s.fnd x = 0 → upd s.fnd t (s.cnt + 1) x = 0 ∨ b ≤ upd s.fnd t (s.cnt + 1) x := fun b hb x hx => by
      by_cases c : x = t
      · rw [c, upd_at]; exact .inr hb
      · rw [upd_ne _ _ c]; exact .inl hx
    have hpt : ∀ x, ptN (evs ++ [.meet i]) x = ptN evs x := ptN_meet evs i
    refine ⟨⟨⟨[], ?_, ⟨List.Pairwise.nil, fun c hc => absurd hc (by simp)⟩, fun c hc => absurd hc (by simp), fun c hc => absurd hc (by simp), fun i y _ _ hy hb => ?_⟩, ⟨?_, ?_⟩⟩, fun x hx => ?_, fun x hx hnn => ?_⟩
    · rw [hpt]; exact (h2 t h0).symm
    · exfalso
      dsimp only at hy
      rw [upd_at] at hy
      by_cases c : y = t
      · rw [c, upd_at] at hy; omega
      · rw [upd_ne _ _ c] at hy; have := hI.cn y; omega
    · dsimp only
      rw [upd_at, hpt]
      have := h1.1.next (s' := ⟨s.cnt + 1, upd s.fnd t (s.cnt + 1), upd s.low t (s.cnt + 1), upd s.met i true, ⟨t, i, 0⟩ :: ⟨p.v, p.e, p.nx + 1⟩ :: q⟩) hlv.1.pos hf (hn _ (Nat.le_refl _))
      exact this
    · dsimp only
      rw [hf _ hlv.1.pos]
      refine OpS.next h1.2 (K := s.fnd p.v) (Nat.le_refl _) (fun p' r b hp' hb ho => ?_) fun p' hp' => ⟨hf _ (hlv.pos p' (List.mem_cons_of_mem _ hp')), Nat.le_of_lt (hlv.below p' hp')⟩
      rw [hpt]
      exact ho.next (hlv.pos p' (List.mem_cons_of_mem _ hp')) hf (hn _ (by have := hI.cn p.v; omega))
    · dsimp only at hx
      rw [hpt]
      by_cases c : x = t
      · rw [c, upd_at] at hx; omega
      · rw [upd_ne _ _ c] at hx; exact h2 x hx
    · dsimp only at hx hnn
      have c : x ≠ t := fun c => hnn _ (List.mem_cons_self ..) c.symm
      rw [upd_ne _ _ c] at hx
      rw [hpt]
      refine h3 x hx fun p' hp' => ?_
      obtain ⟨q2, h4, h5⟩ := stk_sub (k := p.nx + 1) hp'
      rw [← h5]; exact hnn q2 (List.mem_cons_of_mem _ h4)
  | @back s evs p q i h' hs hi hm h0 ih =>
    obtain ⟨h1, h2, h3⟩ := ih
    have hI := h'.inv G
    have hlv := hI.lev
    rw [hs] at hlv h1 h3
    have hpt : ∀ x, ptN (evs ++ [.meet i]) x = ptN evs x := ptN_meet evs i
    refine ⟨⟨?_, ?_⟩, fun x hx => (hpt x).trans (h2 x hx), fun x hx hnn => ?_⟩
    · rw [hpt]; exact h1.1
    · exact OpS.next h1.2 (K := s.fnd p.v) (Nat.le_refl _) (fun p' r b hp' _ ho => by rw [hpt]; exact ho) fun p' hp' => ⟨rfl, Nat.le_of_lt (hlv.below p' hp')⟩
    · rw [hpt]
      refine h3 x hx fun p' hp' => ?_
      obtain ⟨q2, h4, h5⟩ := stk_sub (k := p.nx + 1) hp'
      rw [← h5]; exact hnn q2 h4
  | @up s evs p q r h' hs hn ih =>
    obtain ⟨h1, h2, h3⟩ := ih
    have hI := h'.inv G
    have C := cert_up G hI hs hn
    have hpas := pas_up G hI hs hn
    have hlv := hI.lev
    rw [hs] at hlv h1 h3
    have hlt := hlv.below q (List.mem_cons_self ..)
    have hqp : q.v ≠ p.v := fun c => by rw [c] at hlt; omega
    have hqo := hlv.2.1.pos
    obtain ⟨⟨Pp, p1, p2, p3, p4, p5⟩, ⟨Pq, q1, q2, q3, q4, q5⟩, hrest⟩ := h1
    have rest : ∀ x, x ≠ p.v → x ≠ q.v → ∀ ev : Bool × Bool, ptN (evs ++ [.leave q.v p.v p.e.toNat ev.1 ev.2]) x = ptN evs x := fun x h1 h2 ev => by
      rw [ptN_snoc, evP, if_neg (fun c => h1 c.symm), if_neg (fun c => h2 c.2.symm)]; rfl
    have inT : ∀ y, s.fnd p.v ≤ s.fnd y → CI E (noV E q.v) p.v y := fun y hy => (C.con y hy).mono fun j hj => ⟨hj.1, fun c => by have := hj.2.1; rw [c] at this; omega, fun c => by have := hj.2.2; rw [c] at this; omega⟩
    refine ⟨⟨?_, ?_⟩, fun x hx => ?_, fun x hx hnn => ?_⟩
    · -- the vertex above
      have hold : ∀ i y, i < E.length → Lnk E i q.v y → s.fnd q.v < s.fnd y → s.fnd y < s.fnd p.v → (∃ c, c ∈ Pq ∧ CI E (noV E q.v) c y) ∨ ∃ a r', r = a :: r' ∧ CI E (noV E q.v) a.v y := q5
      rcases Nat.lt_or_ge (s.low p.v) (s.fnd q.v) with c | c
      · rw [decide_eq_true c]
        obtain ⟨a, r', e, hc⟩ := hpas c
        refine ⟨Pq, ?_, q2, fun c hc => by have := q3 c hc; have := hI.cn p.v; dsimp only; omega, q4, fun i y hi hl hy hb => ?_⟩
        · rw [ptN_snoc, evP, if_neg (fun c => hqp c.symm), if_neg (by simp)]; exact q1
        · rcases Nat.lt_or_ge (s.fnd y) (s.fnd p.v) with d | d
          · exact hold i y hi hl hy d
          · exact .inr ⟨a, r', e, hc.symm.trans (inT y d)⟩
      · have hd : decide (s.low p.v < s.fnd q.v) = false := decide_eq_false (by omega)
        rw [hd] at C ⊢
        have shut : ∀ y, CI E (noV E q.v) p.v y → s.fnd p.v ≤ s.fnd y := fun y hy => part_shut C C.tv hy
        refine ⟨Pq ++ [p.v], ?_, ⟨?_, fun c hc => ?_⟩, fun c hc => ?_, fun c hc y hy => ?_, fun i y hi hl hy hb => ?_⟩
        · rw [ptN_snoc, evP, if_neg (fun c => hqp c.symm), if_pos ⟨rfl, rfl⟩, List.length_append, q1]; rfl
        · rw [List.pairwise_append]
          refine ⟨q2.pw, List.pairwise_singleton _ _, fun x hx y hy hc => ?_⟩
          rw [show y = p.v by simpa using hy] at hc
          have := shut x hc.symm
          have := q3 x hx
          omega
        · rcases List.mem_append.1 hc with hc | hc
          · exact q2.nb c hc
          · rw [show c = p.v by simpa using hc]
            exact ⟨_, C.he, C.lnk⟩
        · dsimp only
          rcases List.mem_append.1 hc with hc | hc
          · have := q3 c hc; have := hI.cn p.v; omega
          · rw [show c = p.v by simpa using hc]
            have := hI.cn p.v; omega
        · rcases List.mem_append.1 hc with hc | hc
          · exact q4 c hc y hy
          · rw [show c = p.v by simpa using hc] at hy
            have := shut y hy
            dsimp only; omega
        · rcases Nat.lt_or_ge (s.fnd y) (s.fnd p.v) with d | d
          · rcases hold i y hi hl hy d with ⟨c, hc, hh⟩ | hh
            · exact .inl ⟨c, List.mem_append_left _ hc, hh⟩
            · exact .inr hh
          · exact .inl ⟨p.v, by simp, inT y d⟩
    · refine OpS.next hrest (K := s.fnd q.v) (Nat.le_refl _) (fun p' r b hp' _ ho => ?_) fun p' hp' => ⟨rfl, Nat.le_of_lt (hlv.2.below p' hp')⟩
      have h6 := hlv.2.below p' hp'
      rw [rest p'.v (fun c => by rw [c] at h6; omega) (fun c => by rw [c] at h6; omega) (_, _)]
      exact ho
    · rw [rest x (fun c => by rw [c] at hx; have := hlv.1.pos; dsimp only at hx; omega) (fun c => by rw [c] at hx; dsimp only at hx; omega) (_, _)]
      exact h2 x hx
    · by_cases c : x = p.v
      · subst c
        refine ⟨Pp ++ [q.v], ?_, ⟨?_, fun c hc => ?_⟩, fun i y hi hl => ?_⟩
        · rw [ptN_snoc, evP, if_pos rfl, if_neg (fun c => hqp c.2), List.length_append, p1]; rfl
        · rw [List.pairwise_append]
          refine ⟨p2.pw, List.pairwise_singleton _ _, fun x hx y hy hc => ?_⟩
          rw [show y = q.v by simpa using hy] at hc
          have := p4 x hx _ hc
          omega
        · rcases List.mem_append.1 hc with hc | hc
          · exact p2.nb c hc
          · rw [show c = q.v by simpa using hc]
            exact ⟨_, C.he, C.lnk.symm⟩
        · have hy0 := (ends_ne G hi hl).1
          rcases Nat.lt_or_ge (s.fnd p.v) (s.fnd y) with d | d
          · rcases p5 i y hi hl d (by have := hI.cn y; omega) with ⟨c, hc, hh⟩ | ⟨a, r', e, hh⟩
            · exact ⟨c, List.mem_append_left _ hc, hh⟩
            · cases e
              exact ⟨_, by simp, hh⟩
          · have hlt2 : s.fnd y < s.fnd p.v := by
              rcases Nat.lt_or_eq_of_le d with d | d
              · exact d
              · exact absurd (hI.inj _ _ hlv.1.pos d.symm) hy0
            refine ⟨q.v, by simp, (C.out i p.v y hi hl (Nat.le_refl _) (by omega)).mono fun j hj => ⟨hj.1, fun c => hj.2.1 (by rw [c]; exact Nat.le_refl _), fun c => hj.2.2 (by rw [c]; exact Nat.le_refl _)⟩⟩
      · have h6 : x ≠ q.v := fun c => hnn q (List.mem_cons_self ..) c.symm
        rw [rest x c h6 (_, _)]
        refine h3 x hx fun p' hp' => ?_
        rcases List.mem_cons.1 hp' with rfl | hp'
        · exact fun e => c e.symm
        · exact hnn p' hp'
  | @out s evs p h' hs hn ih =>
    obtain ⟨h1, h2, h3⟩ := ih
    have hI := h'.inv G
    have hlv := hI.lev
    rw [hs] at hlv h1 h3
    refine ⟨trivial, h2, fun x hx hnn => ?_⟩
    by_cases c : x = p.v
    · subst c
      obtain ⟨⟨Ps, p1, p2, p3, p4, p5⟩, _⟩ := h1
      refine ⟨Ps, p1, p2, fun i y hi hl => ?_⟩
      have hy0 := (ends_ne G hi hl).1
      rcases Nat.lt_or_ge (s.fnd p.v) (s.fnd y) with d | d
      · rcases p5 i y hi hl d (by have := hI.cn y; omega) with hh | ⟨a, r', e, hh⟩
        · exact hh
        · cases e
      · exfalso
        have hlt2 : s.fnd y < s.fnd p.v := by
          rcases Nat.lt_or_eq_of_le d with d | d
          · exact d
          · exact absurd (hI.inj _ _ hlv.1.pos d.symm) hy0
        obtain ⟨q', hq', _⟩ := top_out G hI hs hn hi hl (Nat.le_refl _) hlt2
        exact absurd hq' (by simp)
    · refine h3 x hx fun p' hp' => ?_
      rw [show p' = p by simpa using hp']
      exact fun e => c e.symm
theorem Done.cut (G : GOk n E) (D : Done n E s evs) {x : Nat} (hx : x < n) : CutC E x (ptN evs x) :=
  (D.run.cut G).dn x (D.all x hx) (by rw [D.stk]; intro p hp; exact absurd hp (by simp))
end
end Go.Proofs.Ytcpikabhcjkkmaa
