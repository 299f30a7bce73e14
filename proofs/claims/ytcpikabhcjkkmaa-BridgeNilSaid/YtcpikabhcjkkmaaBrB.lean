/- Plain mathematics of the depth-first search: the blocks. Conditions: the graph is one that is accepted. -/
import Derived.Test.YtcpikabhcjkkmaaBrK
namespace Go.Proofs.Ytcpikabhcjkkmaa

/-- edges with a common end that are on a common cycle -/
def Near (E : List Ed) (a b : Nat) : Prop := a < E.length ∧ b < E.length ∧ ∃ v x y, Lnk E a v x ∧ Lnk E b v y ∧ (x = y ∨ CI E (noV E v) x y)
inductive NearC (E : List Ed) : Nat → Nat → Prop
  | refl (a : Nat) : NearC E a a
  | step {a b c : Nat} (h : NearC E a b) (k : Near E b c) : NearC E a c
theorem Near.symm {E : List Ed} {a b : Nat} (h : Near E a b) : Near E b a := by
  obtain ⟨h1, h2, v, x, y, h3, h4, h5⟩ := h
  exact ⟨h2, h1, v, y, x, h4, h3, h5.imp Eq.symm CI.symm⟩
theorem NearC.trans {E : List Ed} {a b c : Nat} (h : NearC E a b) (k : NearC E b c) : NearC E a c := by
  induction k with
  | refl => exact h
  | step _ k ih => exact .step ih k
theorem NearC.one {E : List Ed} {a b : Nat} (h : Near E a b) : NearC E a b := .step (.refl a) h
theorem NearC.symm {E : List Ed} {a b : Nat} (h : NearC E a b) : NearC E b a := by
  induction h with
  | refl => exact .refl _
  | step _ k ih => exact (NearC.one k.symm).trans ih
/-- the open edges, and the blocks so far -/
def bkStep (st : List Nat × List (List Nat)) : Ev → List Nat × List (List Nat)
  | .meet i => (st.1 ++ [i], st.2)
  | .leave _ _ e _ pas => if pas then st else (st.1.take (st.1.idxOf e), st.2 ++ [st.1.drop (st.1.idxOf e)])
def bkS (evs : List Ev) : List Nat × List (List Nat) := evs.foldl bkStep ([], [])
theorem bkS_snoc (evs : List Ev) (ev : Ev) : bkS (evs ++ [ev]) = bkStep (bkS evs) ev := by simp [bkS]
/-- the open edges, place by place of the stack -/
def Seg (E : List Ed) (s : Dfs) : List Pl → List Nat → Prop
  | [], o => o = []
  | [_], o => o = []
  | p :: q :: r, o => ∃ A B, o = A ++ (p.e.toNat :: B) ∧ Seg E s (q :: r) A ∧ (∀ f, f ∈ A → s.fnd (edP E f).1 < s.fnd p.v ∧ s.fnd (edP E f).2 < s.fnd p.v) ∧ ∀ f, f ∈ B → NearC E p.e.toNat f ∧ (s.fnd p.v ≤ s.fnd (edP E f).1 ∨ s.fnd p.v ≤ s.fnd (edP E f).2)
structure BkI (E : List Ed) (s : Dfs) (o : List Nat) (Bs : List (List Nat)) : Prop where
  seg : Seg E s s.stk o
  mem : ∀ i, s.met i = true ↔ i ∈ o ∨ ∃ D, D ∈ Bs ∧ i ∈ D
  nd : o.Nodup
  sep : ∀ D, D ∈ Bs → ∀ i, i ∈ D → i ∉ o
  cls : ∀ D, D ∈ Bs → D.Nodup ∧ ∃ e, e ∈ D ∧ e < E.length ∧ ∀ f, f ∈ D ↔ NearC E e f
  dis : Bs.Pairwise fun D D' => ∀ i, i ∈ D → i ∉ D'
section
variable {n : Nat} {E : List Ed} {s s' : Dfs} {b b' : Nat} {p q : Pl} {r : List Pl} {evs evs' : List Ev}
theorem seg_pl {v : Nat} {e : Int} {k k' : Nat} {r : List Pl} {o : List Nat} : Seg E s (⟨v, e, k⟩ :: r) o ↔ Seg E s (⟨v, e, k'⟩ :: r) o := by cases r <;> exact Iff.rfl
theorem Seg.next : ∀ {L : List Pl} {o : List Nat}, Seg E s L o → (∀ p, p ∈ L → 0 < s.fnd p.v) → (∀ x, 0 < s.fnd x → s'.fnd x = s.fnd x) → (∀ f, f ∈ o → 0 < s.fnd (edP E f).1 ∧ 0 < s.fnd (edP E f).2) → Seg E s' L o
  | [], _, h, _, _, _ => h
  | [_], _, h, _, _, _ => h
  | p :: q :: r, o, h, hp, hf, ho => by
    obtain ⟨A, B, rfl, h1, h2, h3⟩ := h
    have hp0 := hp p (List.mem_cons_self ..)
    refine ⟨A, B, rfl, Seg.next h1 (fun p' hp' => hp p' (List.mem_cons_of_mem _ hp')) hf fun f hfA => ho f (List.mem_append_left _ hfA), fun f hfA => ?_, fun f hfB => ?_⟩
    · obtain ⟨k1, k2⟩ := ho f (List.mem_append_left _ hfA)
      rw [hf _ k1, hf _ k2, hf _ hp0]; exact h2 f hfA
    · obtain ⟨k1, k2⟩ := ho f (List.mem_append_right _ (List.mem_cons_of_mem _ hfB))
      rw [hf _ k1, hf _ k2, hf _ hp0]; exact h3 f hfB
theorem idxOf_mid {A B : List Nat} {e : Nat} (h : (A ++ e :: B).Nodup) : (A ++ e :: B).idxOf e = A.length := by
  induction A with
  | nil => simp
  | cons a A ih =>
    rw [List.cons_append, List.nodup_cons] at h
    have hne : (a == e) = false := by
      rw [beq_eq_false_iff_ne]
      intro c
      exact h.1 (by rw [c]; simp)
    rw [List.cons_append, List.idxOf_cons, hne, ih h.2]; rfl
theorem Run.blk (G : GOk n E) {evs : List Ev} (h : Run n E s evs) : BkI E s (bkS evs).1 (bkS evs).2 := by
  induction h with
  | start => exact ⟨rfl, fun i => by simp [bkS], List.Pairwise.nil, fun D hD => absurd hD (by simp [bkS]), fun D hD => absurd hD (by simp [bkS]), List.Pairwise.nil⟩
  | @root s evs t h' hs ht h0 ih =>
    obtain ⟨h1, h2, h3, h4, h5, h6⟩ := ih
    rw [hs] at h1
    exact ⟨h1, h2, h3, h4, h5, h6⟩
  | @skip s evs p q i h' hs hi hm ih =>
    obtain ⟨h1, h2, h3, h4, h5, h6⟩ := ih
    have hI := h'.inv G
    rw [hs] at h1
    have hpos : ∀ p' : Pl, p' ∈ (⟨p.v, p.e, p.nx + 1⟩ : Pl) :: q → 0 < s.fnd p'.v := fun p' hp' => by
      rcases List.mem_cons.1 hp' with rfl | hp'
      · exact hI.lev.pos p (by rw [hs]; exact List.mem_cons_self ..)
      · exact hI.lev.pos p' (by rw [hs]; exact List.mem_cons_of_mem _ hp')
    exact ⟨((seg_pl (k' := p.nx + 1)).1 h1).next hpos (fun _ _ => rfl) (fun f hf => (hI.ml f ((h2 f).2 (.inl hf))).2), h2, h3, h4, h5, h6⟩
  | @down s evs p q i h' hs hi hm h0 ih =>
    obtain ⟨h1, h2, h3, h4, h5, h6⟩ := ih
    have hI := h'.inv G
    rw [hs] at h1
    rw [bkS_snoc, bkStep]
    generalize bkS evs = st at *
    obtain ⟨o, Bs⟩ := st
    dsimp only at h1 h2 h3 h4 h5 h6 ⊢
    generalize oN E p.v i = t at *
    have hne : ∀ x, 0 < s.fnd x → x ≠ t := fun x hx c => by subst c; omega
    have hf : ∀ x, 0 < s.fnd x → upd s.fnd t (s.cnt + 1) x = s.fnd x := fun x hx => upd_ne _ _ (hne x hx)
    have hio : i ∉ o := fun c => by have := (h2 i).2 (.inl c); rw [hm] at this; cases this
    have hpos : ∀ p' : Pl, p' ∈ (⟨p.v, p.e, p.nx + 1⟩ : Pl) :: q → 0 < s.fnd p'.v := fun p' hp' => by
      rcases List.mem_cons.1 hp' with rfl | hp'
      · exact hI.lev.pos p (by rw [hs]; exact List.mem_cons_self ..)
      · exact hI.lev.pos p' (by rw [hs]; exact List.mem_cons_of_mem _ hp')
    refine ⟨⟨o, [], by simp, ?_, fun f hfo => ?_, fun f hf => absurd hf (by simp)⟩, fun j => ?_, ?_, fun D hD j hj c => ?_, h5, h6⟩
    · exact ((seg_pl (k' := p.nx + 1)).1 h1).next (s' := ⟨s.cnt + 1, upd s.fnd t (s.cnt + 1), upd s.low t (s.cnt + 1), upd s.met i true, ⟨t, i, 0⟩ :: ⟨p.v, p.e, p.nx + 1⟩ :: q⟩) hpos hf (fun f hfo => (hI.ml f ((h2 f).2 (.inl hfo))).2)
    · obtain ⟨_, k1, k2⟩ := hI.ml f ((h2 f).2 (.inl hfo))
      dsimp only
      rw [hf _ k1, hf _ k2, upd_at]
      have := hI.cn (edP E f).1; have := hI.cn (edP E f).2; omega
    · dsimp only
      constructor
      · intro hj
        rcases met_or hj with hj | rfl
        · rcases (h2 j).1 hj with c | c
          · exact .inl (List.mem_append_left _ c)
          · exact .inr c
        · exact .inl (by simp)
      · rintro (c | c)
        · rcases List.mem_append.1 c with c | c
          · exact met_upd ((h2 j).2 (.inl c))
          · rw [show j = i by simpa using c]; exact upd_at _ _ _
        · exact met_upd ((h2 j).2 (.inr c))
    · skip
      rw [List.nodup_append]
      exact ⟨h3, by simp, fun a ha b hb e => hio (by rw [show b = i by simpa using hb] at e; rw [← e]; exact ha)⟩
    · rcases List.mem_append.1 c with c | c
      · exact h4 D hD j hj c
      · rw [show j = i by simpa using c] at hj
        have := (h2 i).2 (.inr ⟨D, hD, hj⟩)
        rw [hm] at this; cases this
  | @back s evs p q i h' hs hi hm h0 ih =>
    obtain ⟨h1, h2, h3, h4, h5, h6⟩ := ih
    have hI := h'.inv G
    have hb := (inv_back G hI hs hi hm h0).1
    obtain ⟨hil, hin⟩ := adj_get hi
    obtain ⟨hlk, hvt, -, -⟩ := oN_lnk G hil hin
    have hlv := hI.lev
    rw [hs] at hlv h1
    rw [bkS_snoc, bkStep]
    generalize bkS evs = st at *
    obtain ⟨o, Bs⟩ := st
    dsimp only at h1 h2 h3 h4 h5 h6 ⊢
    generalize oN E p.v i = t at *
    have hio : i ∉ o := fun c => by have := (h2 i).2 (.inl c); rw [hm] at this; cases this
    refine ⟨?_, fun j => ?_, ?_, fun D hD j hj c => ?_, h5, h6⟩
    · dsimp only
      obtain ⟨q', hq', rfl⟩ := hb
      cases q with
      | nil => exact absurd hq' (by simp)
      | cons a r =>
        obtain ⟨A, B, e, g1, g2, g3⟩ := h1
        obtain ⟨k1, k2, k3, k4, k5⟩ := hlv.1.par a r rfl
        have hpos : ∀ p' : Pl, p' ∈ a :: r → 0 < s.fnd p'.v := hlv.2.pos
        refine ⟨A, B ++ [i], by rw [e]; simp, g1.next hpos (fun _ _ => rfl) (fun f hfA => (hI.ml f ((h2 f).2 (.inl (by rw [e]; exact List.mem_append_left _ hfA)))).2), g2, fun f hf => ?_⟩
        rcases List.mem_append.1 hf with hf | hf
        · exact g3 f hf
        · rw [show f = i by simpa using hf]
          have hc := Stk.chain (k := s.fnd p.v) (fun i hi => (hI.ml i hi).1) hlv.2 k2 q' hq'
          refine ⟨NearC.one ⟨(hI.ml _ k4).1, hil, p.v, a.v, q'.v, k5.symm, hlk, .inr (hc.mono fun j hj => ⟨hj.2.1, fun c => by have := hj.2.2.1; rw [c] at this; omega, fun c => by have := hj.2.2.2; rw [c] at this; omega⟩)⟩, ?_⟩
          dsimp only
          rcases hlk with e | e <;> rw [e]
          · exact .inl (Nat.le_refl _)
          · exact .inr (Nat.le_refl _)
    · dsimp only
      constructor
      · intro hj
        rcases met_or hj with hj | rfl
        · rcases (h2 j).1 hj with c | c
          · exact .inl (List.mem_append_left _ c)
          · exact .inr c
        · exact .inl (by simp)
      · rintro (c | c)
        · rcases List.mem_append.1 c with c | c
          · exact met_upd ((h2 j).2 (.inl c))
          · rw [show j = i by simpa using c]; exact upd_at _ _ _
        · exact met_upd ((h2 j).2 (.inr c))
    · skip
      rw [List.nodup_append]
      exact ⟨h3, by simp, fun a ha b hb e => hio (by rw [show b = i by simpa using hb] at e; rw [← e]; exact ha)⟩
    · rcases List.mem_append.1 c with c | c
      · exact h4 D hD j hj c
      · rw [show j = i by simpa using c] at hj
        have := (h2 i).2 (.inr ⟨D, hD, hj⟩)
        rw [hm] at this; cases this
  | @up s evs p q r h' hs hn ih =>
    obtain ⟨h1, h2, h3, h4, h5, h6⟩ := ih
    have hI := h'.inv G
    have C := cert_up G hI hs hn
    have hpas := pas_up G hI hs hn
    have hlv := hI.lev
    rw [hs] at hlv h1
    have hlt := hlv.below q (List.mem_cons_self ..)
    have hpos : ∀ p' : Pl, p' ∈ q :: r → 0 < s.fnd p'.v := hlv.2.pos
    rw [bkS_snoc, bkStep]
    generalize bkS evs = st at *
    obtain ⟨o, Bs⟩ := st
    dsimp only at h1 h2 h3 h4 h5 h6 ⊢
    obtain ⟨A, B, e, g1, g2, g3⟩ := h1
    have hA : ∀ f, f ∈ A → 0 < s.fnd (edP E f).1 ∧ 0 < s.fnd (edP E f).2 := fun f hf => (hI.ml f ((h2 f).2 (.inl (by rw [e]; exact List.mem_append_left _ hf)))).2
    rcases Nat.lt_or_ge (s.low p.v) (s.fnd q.v) with c | c
    · rw [decide_eq_true c] at *
      rw [if_pos rfl]
      refine ⟨?_, h2, h3, h4, h5, h6⟩
      obtain ⟨a, r', rfl, hc⟩ := hpas c
      obtain ⟨A1, B1, rfl, m1, m2, m3⟩ := g1
      obtain ⟨k1, k2, k3, k4, k5⟩ := hlv.2.1.par a r' rfl
      have hq : NearC E q.e.toNat p.e.toNat := NearC.one ⟨(hI.ml _ k4).1, C.he, q.v, a.v, p.v, k5.symm, C.lnk, .inr hc.symm⟩
      refine ⟨A1, B1 ++ p.e.toNat :: B, by rw [e]; simp, m1.next (fun p' hp' => hpos p' (List.mem_cons_of_mem _ hp')) (fun _ _ => rfl) (fun f hf => hA f (List.mem_append_left _ hf)), m2, fun f hf => ?_⟩
      dsimp only
      rcases List.mem_append.1 hf with hf | hf
      · exact m3 f hf
      · rcases List.mem_cons.1 hf with rfl | hf
        · refine ⟨hq, ?_⟩
          rcases C.lnk with e | e <;> rw [e] <;> dsimp only <;> omega
        · obtain ⟨m4, m5⟩ := g3 f hf
          exact ⟨hq.trans m4, by omega⟩
    · have hd : decide (s.low p.v < s.fnd q.v) = false := decide_eq_false (by omega)
      rw [hd] at C ⊢
      rw [if_neg (by simp)]
      subst e
      rw [idxOf_mid h3]
      have hnd := h3
      rw [List.nodup_append] at hnd
      obtain ⟨d1, d2, d3⟩ := hnd
      rw [List.take_left' rfl, List.drop_left' rfl]
      have touch : ∀ f, f ∈ p.e.toNat :: B → s.fnd p.v ≤ s.fnd (edP E f).1 ∨ s.fnd p.v ≤ s.fnd (edP E f).2 := fun f hf => by
        rcases List.mem_cons.1 hf with rfl | hf
        · rcases C.lnk with e | e <;> rw [e] <;> dsimp only <;> omega
        · exact (g3 f hf).2
      have shut : ∀ a b, Near E a b → a ∈ p.e.toNat :: B → b ∈ p.e.toNat :: B := fun a b hab ha => by
        have hab' := hab
        obtain ⟨n1, n2, v, x, y, n3, n4, n5⟩ := hab
        have ta : s.fnd p.v ≤ s.fnd v ∨ s.fnd p.v ≤ s.fnd x := by
          have := touch a ha
          rcases n3 with e | e <;> rw [e] at this <;> dsimp only at this <;> omega
        have tb : s.fnd p.v ≤ s.fnd v ∨ s.fnd p.v ≤ s.fnd y := by
          by_cases cv : s.fnd p.v ≤ s.fnd v
          · exact .inl cv
          · have tx := ta.resolve_left cv
            have hvq : v = q.v := by
              by_cases cq : v = q.v
              · exact cq
              · have := C.pas.2 ⟨a, x, v, n1, n3.symm, tx, cv, cq⟩
                cases this
            rcases n5 with rfl | n5
            · exact .inr tx
            · rw [hvq] at n5
              exact .inr (part_shut C tx n5)
        have hmb : s.met b = true := by
          rcases tb with tb | tb
          · exact top_met G hI hs hn n2 n4 tb
          · exact top_met G hI hs hn n2 n4.symm tb
        rcases (h2 b).1 hmb with hb | ⟨D, hD, hb⟩
        · rcases List.mem_append.1 hb with hb | hb
          · exfalso
            obtain ⟨k1, k2⟩ := g2 b hb
            have := lnk_and (P := fun z => s.fnd z < s.fnd p.v) n4 k1 k2
            omega
          · exact hb
        · exfalso
          obtain ⟨_, e0, _, _, hcl⟩ := h5 D hD
          have haD : a ∈ D := (hcl a).2 (.step ((hcl b).1 hb) hab'.symm)
          exact h4 D hD a haD (List.mem_append_right _ ha)
      refine ⟨g1.next hpos (fun _ _ => rfl) hA, fun j => ?_, d1, fun D hD j hj cA => ?_, fun D hD => ?_, ?_⟩
      · dsimp only
        rw [h2 j, List.mem_append]
        constructor
        · rintro ((c | c) | ⟨D, c, d⟩)
          · exact .inl c
          · exact .inr ⟨_, List.mem_append_right _ (List.mem_singleton.2 rfl), c⟩
          · exact .inr ⟨D, List.mem_append_left _ c, d⟩
        · rintro (c | ⟨D, c, d⟩)
          · exact .inl (.inl c)
          · rcases List.mem_append.1 c with c | c
            · exact .inr ⟨D, c, d⟩
            · rw [List.mem_singleton.1 c] at d
              exact .inl (.inr d)
      · rcases List.mem_append.1 hD with hD | hD
        · exact h4 D hD j hj (List.mem_append_left _ cA)
        · rw [List.mem_singleton.1 hD] at hj
          exact d3 j cA j hj rfl
      · rcases List.mem_append.1 hD with hD | hD
        · exact h5 D hD
        · rw [List.mem_singleton.1 hD]
          refine ⟨d2, p.e.toNat, List.mem_cons_self .., C.he, fun f => ⟨fun hf => ?_, fun hf => ?_⟩⟩
          · rcases List.mem_cons.1 hf with rfl | hf
            · exact .refl _
            · exact (g3 f hf).1
          · generalize hE : p.e.toNat = e0 at *
            clear C g3 touch h2 h3 h4 g1 g2 d1 d2 d3 hD
            induction hf with
            | refl => exact List.mem_cons_self ..
            | step _ k ih => exact shut _ _ k ih
      · rw [List.pairwise_append]
        refine ⟨h6, List.pairwise_singleton _ _, fun D hD D' hD' j hj cj => ?_⟩
        rw [List.mem_singleton.1 hD'] at cj
        exact h4 D hD j hj (List.mem_append_right _ cj)
  | @out s evs p h' hs hn ih =>
    obtain ⟨h1, h2, h3, h4, h5, h6⟩ := ih
    rw [hs] at h1
    exact ⟨h1, h2, h3, h4, h5, h6⟩
/-- the blocks are the classes of the edges -/
theorem Done.blk (G : GOk n E) (D : Done n E s evs) : (∀ B, B ∈ (bkS evs).2 → B.Nodup ∧ ∃ e, e ∈ B ∧ e < E.length ∧ ∀ f, f ∈ B ↔ NearC E e f) ∧ ((bkS evs).2.Pairwise fun B B' => ∀ i, i ∈ B → i ∉ B') ∧ ∀ i, i < E.length → ∃ B, B ∈ (bkS evs).2 ∧ i ∈ B := by
  obtain ⟨h1, h2, h3, h4, h5, h6⟩ := D.run.blk G
  rw [D.stk] at h1
  refine ⟨h5, h6, fun i hi => ?_⟩
  rcases (h2 i).1 (D.met G hi) with c | c
  · rw [show (bkS evs).1 = [] from h1] at c; exact absurd c (by simp)
  · exact c
end
end Go.Proofs.Ytcpikabhcjkkmaa
