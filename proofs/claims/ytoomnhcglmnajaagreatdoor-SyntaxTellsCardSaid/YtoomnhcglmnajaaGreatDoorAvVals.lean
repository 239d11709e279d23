/-
  Arguments of plain types; no condition.
-/
import Derived.Test.YtoomnhcglmnajaaGreatDoorAvThree
import Derived.Test.YtoomnhcglmnajaaGreatDoorAvMore
set_option linter.unusedVariables false
set_option linter.unusedSimpArgs false
namespace Go.Av
open Go.ChangeShapes Go.WideShapes Go.ChangeAt Go.RowKit Go.Proofs

/-! ### arguments of plain types -/
theorem not_mut {W : World} (hL : laidMetH Tryz.prog laidL W) (a : Addr) (v : Value) (h : W.cell? a = some v) (hv : ∀ t x, v ≠ .iface t x) : ¬ Mut Hp.nil.bs rho0 a.block := by
  intro hm
  obtain ⟨b, hb⟩ := gw_of_laid hL _ (mut0 hm)
  obtain ⟨ab, ao, asp⟩ := a
  have hs : asp = none := by
    cases asp with
    | none => rfl
    | some q =>
      simp only [World.cell?, Option.isSome_some] at h
      split at h <;> cases h
  subst hs
  have := hb ao
  simp only at this
  rw [h] at this
  rcases ao with _ | ao
  · simp at this; exact hv _ _ this
  · simp at this

theorem vals_in {H : Type} {enc : TypeId × Value → H} {W : World} (hL : laidMetH Tryz.prog laidL W) {L : List TypeId} (hP : plainT Tryz.prog L = true) {t : TypeId} (ht : t ∈ L) {base : Nat} {sp : Nat → Bool} {held : Bool} {v : Value} {d : DataW H} {p : List MemPlace}
    (h : DataW.Trod enc Tryz.prog W base sp held t v d p) (hw : (d.weights Tryz.prog t).all (· ≤ reachBytes) = true) :
    ∃ n l, IShape Tryz.prog n t l ∧ l.length = v.cells.toList.length ∧ ∀ (i : Nat) (y : IV), l[i]? = some y → ∃ u, v.cells.toList[i]? = some u ∧ IRep (Mut Hp.nil.bs rho0) W y u := by
  obtain ⟨fuel, hf⟩ := h
  obtain ⟨l, h1, h2, h3⟩ := ivs_in hP (not_mut hL) fuel t _ (d, p) ht hf hw
  exact ⟨fuel, l, h3, h1, fun i y hy => (h2 i y hy).imp fun u hu => ⟨hu.1, hu.2.1⟩⟩

theorem weights_at {H : Type} {ts : List TypeId} {ds : List (DataW H)} {j : Nat} {t : TypeId} {d : DataW H} (hsz : (DataW.weightsEach Tryz.prog ts ds).all (· ≤ reachBytes) = true) (ht : ts[j]? = some t) (hd : ds[j]? = some d) :
    (d.weights Tryz.prog t).all (· ≤ reachBytes) = true :=
  List.all_eq_true.2 fun z hz => List.all_eq_true.1 hsz z (DataW.weights_mem_each ht hd z hz)

theorem rows_all {α β : Type} {f : α → β} : ∀ {rows : List β}, (∀ r ∈ rows, ∃ a, r = f a) → ∃ l : List α, rows = l.map f
  | [], _ => ⟨[], rfl⟩
  | r :: rs, h => by
    obtain ⟨a, ha⟩ := h r (by simp)
    obtain ⟨l, hl⟩ := rows_all (f := f) (rows := rs) fun q hq => h q (List.mem_cons_of_mem _ hq)
    exact ⟨a :: l, by simp [ha, hl]⟩

end Go.Av

