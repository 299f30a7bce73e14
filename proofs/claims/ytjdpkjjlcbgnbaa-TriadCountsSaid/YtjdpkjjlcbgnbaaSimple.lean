/- The walk of the law TriadSimple. No conditions. -/
import Derived.Test.YtjdpkjjlcbgnbaaSumsW
import Derived.Deep.RegionLaw
namespace Go.Proofs.Ytjdpkjjlcbgnbaa
open Go.RowKit Go.Shelf

theorem stepB {w w1 w2 : World} (h : Below w.heap.size w w1) (h2 : Below w1.heap.size w1 w2) : Below w.heap.size w w2 := h.trans (h2.mono h.size)
/-- two lists of edges with the same neighbours have the same answers -/
theorem same_nbr {k : Nat} {E E' : List Ed} (h : ∀ x y, nearB E' x y = nearB E x y) : nbr (some (k, E')) = nbr (some (k, E)) := by
  funext v
  simp only [nbr, gN, gE, h]
theorem same_lat {o o' : Option (Nat × List Ed)} (h : nbr o' = nbr o) : lat o' = lat o := by funext v; simp only [lat, h]
theorem same_triW {o o' : Option (Nat × List Ed)} (h : nbr o' = nbr o) : triW o' = triW o := by funext u v; simp only [triW, same_lat h]
theorem same_triV {o o' : Option (Nat × List Ed)} (h : nbr o' = nbr o) : triV o' = triV o := by funext u j; simp only [triV, same_lat h, same_triW h]
theorem same_tri {o o' : Option (Nat × List Ed)} (hn : gN o' = gN o) (h : nbr o' = nbr o) : tri o' = tri o := by simp only [tri, triU, same_triV h, same_lat h, hn]
theorem same_at {o o' : Option (Nat × List Ed)} (h : nbr o' = nbr o) : atS o' = atS o := by funext v; simp only [atS, atTo, h]
theorem same_pr {o o' : Option (Nat × List Ed)} (h : nbr o' = nbr o) : prTo o' = prTo o := by
  funext k
  induction k with
  | zero => rfl
  | succ k ih => simp only [prTo, ih, h]
theorem same_has {o o' : Option (Nat × List Ed)} (hn : gN o' = gN o) : gHas o' = gHas o := by funext v; simp only [gHas, hn]

theorem same_all {o o' : Option (Nat × List Ed)} (hs : o'.isSome = o.isSome) (hn : gN o' = gN o) (h : nbr o' = nbr o) (v : Int) :
    lcN o' v = lcN o v ∧ lcD o' v = lcD o v ∧ lcE o' v = lcE o v ∧ glN o' = glN o ∧ glD o' = glD o ∧ glE o' = glE o ∧ (tri o').length = (tri o).length ∧ atS o' v = atS o v := by
  have h1 := same_at h
  have h2 := same_has hn
  have h3 := same_tri hn h
  have h4 := same_pr h
  refine ⟨?_, ?_, ?_, ?_, ?_, ?_, ?_, ?_⟩
  · simp only [lcN, h1, h2, h]
  · simp only [lcD, h1, h2, h]
  · simp only [lcE, h2, hs]
  · simp only [glN, h3, h4, hn, hs]
  · simp only [glD, h3, h4, hn, hs]
  · simp only [glE, hs]
  · rw [h3]
  · rw [h1]
/-- the edges that TriadSimple makes, after d rounds -/
def twL (E : List Ed) : Nat → List Ed
  | 0 => []
  | d + 1 => let e := eAt E (E.length - 1 - d); if (E.length - 1 - d) % 2 = 0 then twL E d ++ [⟨e.v, e.u, 7⟩] ++ [e] else twL E d ++ [⟨e.v, e.u, 7⟩]
theorem twL_odd {E : List Ed} {q d : Nat} (h : q + 1 + d = E.length) (ho : q % 2 ≠ 0) : twL E (d + 1) = twL E d ++ [⟨(eAt E q).v, (eAt E q).u, 7⟩] := by
  have e : E.length - 1 - d = q := by omega
  simp only [twL, e, if_neg ho]
theorem twL_even {E : List Ed} {q d : Nat} (h : q + 1 + d = E.length) (ho : q % 2 = 0) : twL E (d + 1) = twL E d ++ [⟨(eAt E q).v, (eAt E q).u, 7⟩] ++ [eAt E q] := by
  have e : E.length - 1 - d = q := by omega
  simp only [twL, e, if_pos ho]
theorem mem_twL {E : List Ed} {x : Ed} : ∀ {d : Nat}, d ≤ E.length → x ∈ twL E d → ∃ i, i < E.length ∧ (x = ⟨(eAt E i).v, (eAt E i).u, 7⟩ ∨ x = eAt E i)
  | 0, _, h => by simp [twL] at h
  | d + 1, hd, h => by
    by_cases ho : (E.length - 1 - d) % 2 = 0
    · rw [twL_even (q := E.length - 1 - d) (by omega) ho] at h
      simp only [List.mem_append, List.mem_singleton] at h
      rcases h with (h | h) | h
      · exact mem_twL (by omega) h
      · exact ⟨_, by omega, .inl h⟩
      · exact ⟨_, by omega, .inr h⟩
    · rw [twL_odd (q := E.length - 1 - d) (by omega) ho] at h
      simp only [List.mem_append, List.mem_singleton] at h
      rcases h with h | h
      · exact mem_twL (by omega) h
      · exact ⟨_, by omega, .inl h⟩
theorem twL_has {E : List Ed} : ∀ {d i : Nat}, d ≤ E.length → i < E.length → E.length ≤ i + d → (⟨(eAt E i).v, (eAt E i).u, 7⟩ : Ed) ∈ twL E d
  | 0, i, _, h1, h2 => by omega
  | d + 1, i, hd, h1, h2 => by
    have sub : twL E d ++ [⟨(eAt E (E.length - 1 - d)).v, (eAt E (E.length - 1 - d)).u, 7⟩] <+: twL E (d + 1) := by
      by_cases ho : (E.length - 1 - d) % 2 = 0
      · rw [twL_even (q := E.length - 1 - d) (by omega) ho]; exact List.prefix_append _ _
      · rw [twL_odd (q := E.length - 1 - d) (by omega) ho]; exact List.prefix_refl _
    refine sub.subset ?_
    simp only [List.mem_append, List.mem_singleton]
    by_cases hi : i = E.length - 1 - d
    · subst hi; exact .inr rfl
    · exact .inl (twL_has (by omega) h1 (by omega))
theorem twL_len {E : List Ed} : ∀ {d : Nat}, d ≤ E.length → (twL E d).length ≤ 2 * d
  | 0, _ => by simp [twL]
  | d + 1, hd => by
    have ih := twL_len (E := E) (d := d) (by omega)
    by_cases ho : (E.length - 1 - d) % 2 = 0
    · rw [twL_even (q := E.length - 1 - d) (by omega) ho]; simp; omega
    · rw [twL_odd (q := E.length - 1 - d) (by omega) ho]; simp; omega
theorem eAt_mem {E : List Ed} {i : Nat} (h : i < E.length) : eAt E i ∈ E := by rw [eAt_eq h]; exact List.getElem_mem h
theorem nearB_mem {E : List Ed} {x y : Int} : nearB E x y = true ↔ ∃ e ∈ E, e.u = x ∧ e.v = y ∨ e.u = y ∧ e.v = x := by simp [nearB]
theorem twL_near (E : List Ed) (x y : Int) : nearB (twL E E.length) x y = nearB E x y := by
  rw [Bool.eq_iff_iff, nearB_mem, nearB_mem]
  constructor
  · rintro ⟨e, he, h⟩
    obtain ⟨i, hi, rfl | rfl⟩ := mem_twL (Nat.le_refl _) he
    · exact ⟨_, eAt_mem hi, h.elim (fun h => .inr ⟨h.2, h.1⟩) (fun h => .inl ⟨h.2, h.1⟩)⟩
    · exact ⟨_, eAt_mem hi, h⟩
  · rintro ⟨e, he, h⟩
    obtain ⟨i, hi, rfl⟩ := List.mem_iff_getElem.1 he
    refine ⟨_, twL_has (Nat.le_refl _) hi (by omega), ?_⟩
    rw [eAt_eq hi]
    exact h.elim (fun h => .inr ⟨h.2, h.1⟩) (fun h => .inl ⟨h.2, h.1⟩)
theorem GOk.of_mem {k : Nat} {E : List Ed} (hk : k ≤ 4096) (hl : E.length ≤ 16384) (h : ∀ e, e ∈ E → 0 ≤ e.u ∧ e.u < k ∧ 0 ≤ e.v ∧ e.v < k ∧ e.u ≠ e.v) : GOk k E :=
  ⟨hk, hl, fun _ hi => h _ (eAt_mem hi)⟩
theorem twL_ok {k : Nat} {E : List Ed} (G : GOk k E) (hl : E.length ≤ 70) : GOk k (twL E E.length) :=
  GOk.of_mem G.n_le (by have := twL_len (E := E) (Nat.le_refl _); omega) fun e he => by
    obtain ⟨i, hi, rfl | rfl⟩ := mem_twL (Nat.le_refl _) he
    · have := G.ends i hi; exact ⟨this.2.2.1, this.2.2.2.1, this.1, this.2.1, fun h => this.2.2.2.2 h.symm⟩
    · exact G.ends i hi
theorem flat_snoc (T : List Ed) (x : Ed) : flat (edC (T ++ [x])) (T ++ [x]).length 3 = flat (edC T) T.length 3 ++ #[Value.int .i64 x.u, .int .i64 x.v, .int .i64 x.w].toList := by
  have e1 : ∀ i, i < T.length → eAt (T ++ [x]) i = eAt T i := fun i hi => by rw [eAt_eq (by simp; omega), eAt_eq hi, List.getElem_append_left hi]
  have e2 : eAt (T ++ [x]) T.length = x := by rw [eAt_eq (by simp)]; simp
  rw [List.length_append, List.length_singleton, flat_succ]
  congr 1
  · refine flat_congr fun i hi j _ => ?_
    unfold edC; rw [e1 i hi]
  · simp [List.range_succ, edC, e2]
/-- edges that the call owns -/
def OwnE (base : Nat) (v : Value) (T : List Ed) (w : World) : Prop := w.ownsRow base 45 3 v T.length (flat (edC T) T.length 3)
theorem OwnE.nil (base : Nat) (w : World) : OwnE base (.slice none 0 0) [] w := World.ownsRow_nil _ _ _ _
theorem OwnE.snoc {base g cp : Nat} {T : List Ed} {x : Ed} {w : World} (h : w.ownsRow base 45 3 (.slice (some ⟨g, 0, none⟩) (T.length + 1 : Nat) cp) (T.length + 1) (flat (edC T) T.length 3 ++ #[Value.int .i64 x.u, .int .i64 x.v, .int .i64 x.w].toList)) :
    OwnE base (.slice (some ⟨g, 0, none⟩) (T.length + 1 : Nat) cp) (T ++ [x]) w := by
  rw [OwnE, flat_snoc, List.length_append, List.length_singleton]; exact h

/-- one element is appended to a row that the call owns: as a step of a region that draws -/
theorem step_push {ops : Array Oper} {o : Oper} {a : Act} {K : Act → World → Prop} {Q : Exit → Act → World → Prop} {X : Prop} {w0 : World} {t e : TypeId} {size bytes : Nat} (E : ET t e size bytes) (hgd : o.guard = none) (s x : Operand)
    (ho : o.op = .call { callee := .builtin .append, args := #[s, x], argTypes := #[t, t] }) (base : Nat) (v : Value) (n : Nat) (xs : List Value) (hown : w0.ownsRow base e size v n xs) (hs : a.eval s = v)
    (news : Array Value) (N : Nat) (hx : a.eval x = .slice (some ⟨N, 0, none⟩) 1 1) (hN : w0.heap.size = N) (hsz : news.size = size) (h1 : ∀ u ∈ news.toList, u.oneCell' = true)
    (hn : (n + 1) * bytes ≤ 140737488355328) (hm : n + 1 ≤ 9223372036854775807) (hbase : base ≤ w0.heap.size)
    (h : ∀ (g cap : Nat) (w1 : World), w1.ownsRow base e size (.slice (some ⟨g, 0, none⟩) (n + 1 : Nat) cap) (n + 1) (xs ++ news.toList) → w0.grownBy w1 v.ownBlock →
      K (a.put o.dst (.slice (some ⟨g, 0, none⟩) (n + 1 : Nat) cap)) w1) :
    if Region.wanted o (yielded ops a.tmps) = true then Oper.wp Try.prog o a (w0.alloc (.cells news e)) K Q else X := by
  have hw : Region.wanted o (yielded ops a.tmps) = true := by simp [Region.wanted, hgd]
  rw [if_pos hw]
  subst hN
  obtain ⟨i, z, hi, hz, h2, h3, h4⟩ := E.info
  obtain ⟨v', w', hr, k2, k3, _, _⟩ := run_append_own_at (P := Try.prog) (w0.alloc (.cells news e)) base t o.type e i z size bytes E.ht hi hz h2 h3 h4 E.pos v n xs (hown.alloc _) ⟨w0.heap.size, 0, none⟩ 1 1 news.toList (by simp [hsz]) (by
    intro j u hu
    rw [add_mk, Nat.zero_add]
    have := heap_alloc_new w0 (.cells news e)
    simp only [World.cell?, this, Option.isSome_none, Bool.false_eq_true, if_false]
    rw [Array.getElem?_toList] at hu; exact hu) h1 (by unfold maxLen; omega) hn (by simp; omega)
  unfold Oper.wp execOp
  simp only [ho, resolve, invoke, builtin, Sem.run_bind, Sem.run_pure, Result.andThen_ok, List.map_toArray, List.map_cons, List.map_nil, hs, hx, hr]
  rcases k2.2 with ⟨_, h0⟩ | ⟨g, cap, cur, rfl, r⟩
  · omega
  · exact h g cap w' k2 (grownBy_of_alloc k3)
end Go.Proofs.Ytjdpkjjlcbgnbaa
