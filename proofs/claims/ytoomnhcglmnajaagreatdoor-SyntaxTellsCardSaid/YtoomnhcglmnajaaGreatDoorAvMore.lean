/-
  More arguments of a law, and data of plain types as it came in; no condition.
-/
import Derived.Test.YtoomnhcglmnajaaGreatDoorAvThree
import Derived.Test.YtoomnhcglmnajaaGreatDoorAvOne
import Derived.Test.YtoomnhcglmnajaaGreatDoorAvFrame
import Derived.ChangeArms
import Derived.DataReads
import Derived.SizedLaws
set_option linter.unusedVariables false
set_option linter.unusedSimpArgs false
namespace Go.Av
open Go.ChangeShapes Go.WideShapes Go.ChangeAt Go.RowKit Go.Proofs

/-! ### more arguments -/
theorem u8_wf {n : Int} (h : (Lit.int .u8 n).wf = true) : 0 ≤ n ∧ n < 256 := by
  have h0 : (decide (IntKind.u8.min ≤ n) && decide (n ≤ IntKind.u8.max)) = true := h
  rw [Bool.and_eq_true, decide_eq_true_eq, decide_eq_true_eq, show IntKind.u8.min = 0 from rfl, show IntKind.u8.max = 255 from rfl] at h0
  omega

theorem args_three {x y t : LV} {u v s : Value} {H : Hp} {ρ : Rho} {W : World} (h : LRep H ρ W x u) (h' : LRep H ρ W y v) (h'' : LRep H ρ W t s) : ∀ (i : Nat) (lv : LV), [x, y, t][i]? = some lv → ∃ z, (#[u, v, s] : Array Value)[i]? = some z ∧ LRep H ρ W lv z := by
  intro i lv hi
  rcases i with _ | _ | _ | i
  · simp at hi; subst hi; exact ⟨u, rfl, h⟩
  · simp at hi; subst hi; exact ⟨v, rfl, h'⟩
  · simp at hi; subst hi; exact ⟨s, rfl, h''⟩
  · simp at hi
end Go.Av

namespace Go.Av
open Go.RowKit

/-! ### data of plain types (numbers, truth values, slices and structs of them), as it came in -/
def contig (P : Program) : List Field → Nat → Nat → Bool
  | [], o, n => o == n
  | f :: r, o, n => f.offset == o && contig P r (o + P.cellsOf f.type) n
def plainT (P : Program) (L : List TypeId) : Bool := L.all fun t => match P.underlying t with
  | some (.int _) => true
  | some .bool => true
  | some (.slice e) => L.contains e && (decide (0 < P.cellsOf e) && decide (0 < P.bytesOf e))
  | some (.struct fs) => contig P fs.toList 0 (P.cellsOf t) && fs.toList.all fun f => L.contains f.type
  | _ => false

def IShape (P : Program) : Nat → TypeId → List IV → Prop
  | 0, _, _ => False
  | n + 1, t, l => match P.underlying t with
    | some (.int k) => ∃ m, l = [.sc (.int k m)] ∧ (Lit.int k m).wf = true
    | some .bool => ∃ b, l = [.sc (.bool b)]
    | some (.slice e) => ∃ rows, l = [.sl (P.cellsOf e) rows] ∧ rows.length * P.bytesOf e ≤ reachBytes ∧ ∀ r ∈ rows, IShape P n e r
    | some (.struct fs) => ∃ parts : List (List IV), l = parts.flatten ∧ parts.length = fs.toList.length ∧ ∀ (i : Nat) (f : Field), fs.toList[i]? = some f → ∃ p, parts[i]? = some p ∧ IShape P n f.type p
    | _ => False

theorem list_of {α : Type} (Q : Nat → α → Prop) : ∀ n : Nat, (∀ i, i < n → ∃ x, Q i x) → ∃ l : List α, l.length = n ∧ ∀ (i : Nat) (x : α), l[i]? = some x → Q i x
  | 0, _ => ⟨[], rfl, by intro i x h; cases h⟩
  | n + 1, h => by
    obtain ⟨l, hl, hq⟩ := list_of Q n (fun i hi => h i (by omega))
    obtain ⟨x, hx⟩ := h n (by omega)
    refine ⟨l ++ [x], by simp [hl], fun i y hy => ?_⟩
    by_cases hi : i < l.length
    · rw [List.getElem?_append_left hi] at hy; exact hq i y hy
    · rw [List.getElem?_append_right (by omega)] at hy
      have : i - l.length = 0 := by
        have := (List.getElem?_eq_some_iff.1 hy).1
        simp at this; omega
      rw [this] at hy
      simp at hy
      subst hy
      rw [show i = n by omega]; exact hx

theorem contig_le {P : Program} : ∀ {fs : List Field} {o n : Nat}, contig P fs o n = true → o ≤ n
  | [], o, n, h => by simp [contig] at h; omega
  | f :: r, o, n, h => by
    simp only [contig, Bool.and_eq_true] at h
    have := contig_le h.2
    omega

theorem glue {P : Program} {R : IV → Value → Prop} {cs : List Value} : ∀ {fs : List Field} {o : Nat} {parts : List (List IV)}, contig P fs o cs.length = true → parts.length = fs.length →
    (∀ (i : Nat) (f : Field), fs[i]? = some f → ∃ p, parts[i]? = some p ∧ p.length = ((cs.drop f.offset).take (P.cellsOf f.type)).length ∧ ∀ (j : Nat) (y : IV), p[j]? = some y → ∃ v, ((cs.drop f.offset).take (P.cellsOf f.type))[j]? = some v ∧ R y v) →
    parts.flatten.length = cs.length - o ∧ ∀ (j : Nat) (y : IV), parts.flatten[j]? = some y → ∃ v, cs[o + j]? = some v ∧ R y v
  | [], o, parts, hc, hl, h => by
    simp [contig] at hc
    have : parts = [] := List.eq_nil_of_length_eq_zero hl
    subst this
    exact ⟨by simp; omega, by intro j y hy; simp at hy⟩
  | f :: r, o, [], hc, hl, h => by simp at hl
  | f :: r, o, p :: ps, hc, hl, h => by
    simp only [contig, Bool.and_eq_true, beq_iff_eq] at hc
    obtain ⟨ho, hc⟩ := hc
    have hle := contig_le hc
    obtain ⟨p', hp', hpl, hpr⟩ := h 0 f rfl
    simp at hp'
    subst hp'
    rw [ho] at hpl hpr
    have hplen : p.length = P.cellsOf f.type := by rw [hpl, List.length_take, List.length_drop]; omega
    obtain ⟨h1, h2⟩ := glue (R := R) (cs := cs) (fs := r) (parts := ps) hc (by simpa using hl) (fun i f' hf => h (i + 1) f' (by simpa using hf))
    refine ⟨by simp only [List.flatten_cons, List.length_append]; omega, fun j y hy => ?_⟩
    rw [List.flatten_cons] at hy
    by_cases hj : j < p.length
    · rw [List.getElem?_append_left hj] at hy
      obtain ⟨v, hv, hr⟩ := hpr j y hy
      rw [List.getElem?_take_of_lt (by omega), List.getElem?_drop] at hv
      exact ⟨v, hv, hr⟩
    · rw [List.getElem?_append_right (by omega)] at hy
      obtain ⟨v, hv, hr⟩ := h2 _ y hy
      refine ⟨v, ?_, hr⟩
      rw [show o + j = o + P.cellsOf f.type + (j - p.length) by omega]; exact hv

theorem weights_all {H : Type} {P : Program} {e : TypeId} : ∀ {l : List (DataW H)} {d : DataW H}, d ∈ l → ∀ n ∈ d.weights P e, n ∈ DataW.weightsAll P e l
  | x :: r, d, h, n, hn => by
    simp only [DataW.weightsAll, List.mem_append]
    rcases List.mem_cons.1 h with rfl | h
    · exact .inl hn
    · exact .inr (weights_all h n hn)

theorem ivs_in {H : Type} {enc : TypeId × Value → H} {P : Program} {W : World} {base : Nat} {sp : Nat → Bool} {held : Bool} {L : List TypeId} (hP : plainT P L = true) {M : Nat → Prop}
    (hM : ∀ (a : Addr) (v : Value), W.cell? a = some v → (∀ t x, v ≠ .iface t x) → ¬ M a.block) :
    ∀ (fuel : Nat) (t : TypeId) (cs : List Value) (x : DataW H × List MemPlace), t ∈ L → DataW.trod enc P W base sp held fuel t cs = some x → (x.1.weights P t).all (· ≤ reachBytes) = true →
      ∃ l : List IV, l.length = cs.length ∧ (∀ (i : Nat) (y : IV), l[i]? = some y → ∃ v, cs[i]? = some v ∧ (IRep M W y v ∧ ∀ t x, v ≠ .iface t x)) ∧ IShape P fuel t l := by
  intro fuel
  induction fuel with
  | zero => intro t cs x _ h; simp [DataW.trod] at h
  | succ n ih =>
    intro t cs x ht h hw
    have hp := List.all_eq_true.1 hP t ht
    cases hu : P.underlying t with
    | none => simp [hu] at hp
    | some u =>
      rw [hu] at hp
      cases u with
      | int k =>
        obtain ⟨m, rfl, rfl, hwf⟩ := DataW.trod_int hu h
        refine ⟨[.sc (.int k m)], rfl, fun i y hy => ?_, by simp only [IShape, hu]; exact ⟨m, rfl, hwf⟩⟩
        rcases i with _ | i
        · simp at hy; subst hy; exact ⟨_, rfl, .sc _ rfl, by intro t x h; cases h⟩
        · simp at hy
      | bool =>
        obtain ⟨b, rfl, rfl⟩ := DataW.trod_bool hu h
        refine ⟨[.sc (.bool b)], rfl, fun i y hy => ?_, by simp only [IShape, hu]; exact ⟨b, rfl⟩⟩
        rcases i with _ | i
        · simp at hy; subst hy; exact ⟨_, rfl, .sc _ rfl, by intro t x h; cases h⟩
        · simp at hy
      | struct fs =>
        simp only [Bool.and_eq_true] at hp
        obtain ⟨xs, m, hm, rfl, hcl, hxl, hx⟩ := DataW.trod_struct hu h
        obtain rfl : n = m := by omega
        have hl : ∀ f ∈ fs.toList, f.type ∈ L := fun f hf => by
          have := List.all_eq_true.1 hp.2 f hf
          simpa using this
        have hfx : ∀ (i : Nat) (f : Field), fs.toList[i]? = some f → ∃ x, xs[i]? = some x ∧ DataW.trod enc P W base sp held n f.type ((cs.drop f.offset).take (P.cellsOf f.type)) = some x := by
          intro i f hf
          have hi : i < xs.length := by rw [hxl]; have := (List.getElem?_eq_some_iff.1 hf).1; simpa using this
          have := hx i f (by simpa using hf)
          rw [List.getElem?_eq_getElem hi] at this
          exact ⟨_, List.getElem?_eq_getElem hi, this⟩
        have hwx : ∀ (i : Nat) (f : Field) x, fs.toList[i]? = some f → xs[i]? = some x → (x.1.weights P f.type).all (· ≤ reachBytes) = true := by
          intro i f x hf hxi
          simp only [DataW.weights, hu] at hw
          refine List.all_eq_true.2 fun z hz => List.all_eq_true.1 hw z ?_
          exact DataW.weights_mem_each (j := i) (by rw [List.getElem?_map, hf]; rfl) (by rw [List.getElem?_map, hxi]; rfl) z hz
        obtain ⟨parts, hpl, hpq⟩ := list_of (fun i (p : List IV) => ∀ f, fs.toList[i]? = some f → p.length = ((cs.drop f.offset).take (P.cellsOf f.type)).length ∧
            (∀ (j : Nat) (y : IV), p[j]? = some y → ∃ v, ((cs.drop f.offset).take (P.cellsOf f.type))[j]? = some v ∧ (IRep M W y v ∧ ∀ t x, v ≠ .iface t x)) ∧ IShape P n f.type p) fs.toList.length (fun i hi => by
          have hf := List.getElem?_eq_getElem hi
          obtain ⟨x, hxi, htr⟩ := hfx i _ hf
          obtain ⟨p, h1, h2, h3⟩ := ih _ _ x (hl _ (List.getElem_mem hi)) htr (hwx i _ x hf hxi)
          refine ⟨p, fun f hf' => ?_⟩
          obtain rfl := Option.some.inj (hf.symm.trans hf')
          exact ⟨h1, h2, h3⟩)
        have hpp : ∀ (i : Nat) (f : Field), fs.toList[i]? = some f → ∃ p, parts[i]? = some p := fun i f hf => by
          have hi := (List.getElem?_eq_some_iff.1 hf).1
          exact ⟨_, List.getElem?_eq_getElem (by omega)⟩
        have g := glue (P := P) (R := fun y v => IRep M W y v ∧ ∀ t x, v ≠ .iface t x) (cs := cs) (fs := fs.toList) (o := 0) (parts := parts) (by rw [hcl]; exact hp.1) hpl (fun i f hf => by
          obtain ⟨p, hp'⟩ := hpp i f hf
          obtain ⟨h1, h2, _⟩ := hpq i p hp' f hf
          exact ⟨p, hp', h1, h2⟩)
        refine ⟨parts.flatten, by rw [g.1]; omega, fun i y hy => by have := g.2 i y hy; rw [Nat.zero_add] at this; exact this, ?_⟩
        simp only [IShape, hu]
        refine ⟨parts, rfl, hpl, fun i f hf => ?_⟩
        obtain ⟨p, hp'⟩ := hpp i f hf
        exact ⟨p, hp', (hpq i p hp' f hf).2.2⟩
      | slice e =>
        simp only [Bool.and_eq_true, decide_eq_true_eq] at hp
        obtain ⟨hLe, hce, hbe⟩ := hp
        have hLe' : e ∈ L := by simpa using hLe
        rcases DataW.trod_slice hu h with ⟨rfl, rfl⟩ | ⟨a, len, cap, elems, rest, m, hm, rfl, rfl, hb, hlc, hmx, hlen, hel, _, _⟩
        · refine ⟨[.sl (P.cellsOf e) []], rfl, fun i y hy => ?_, by simp only [IShape, hu]; exact ⟨[], rfl, by simp, by simp⟩⟩
          rcases i with _ | i
          · simp at hy; subst hy
            exact ⟨_, rfl, .sl _ [] none 0 0 0 (fun _ _ => undef) (by simp) (by simp) (by simp) (by simp) (by simp) (by simp), by intro t x h; cases h⟩
          · simp at hy
        · obtain rfl : n = m := by omega
          simp only [DataW.weights, hu, List.all_cons, Bool.and_eq_true, decide_eq_true_eq] at hw
          obtain ⟨hw1, hw2⟩ := hw
          have hlb : len ≤ 140737488355328 := by
            have hr : reachBytes = 140737488351232 := by decide
            have h1 : ((elems.map (·.1)).length + (rest.map (·.1)).length) * 1 ≤ ((elems.map (·.1)).length + (rest.map (·.1)).length) * P.bytesOf e := Nat.mul_le_mul_left _ hbe
            simp only [List.length_map] at h1 hw1
            omega
          obtain ⟨rows, hrl, hrq⟩ := list_of (fun i (p : List IV) => ∃ cs, W.cells? base (a.add (i * P.cellsOf e)) (P.cellsOf e) = some cs ∧ p.length = cs.length ∧
              (∀ (j : Nat) (y : IV), p[j]? = some y → ∃ v, cs[j]? = some v ∧ (IRep M W y v ∧ ∀ t x, v ≠ .iface t x)) ∧ IShape P n e p) len (fun i hi => by
            have he := hel i hi
            have hie : i < elems.length := by omega
            rw [List.getElem?_eq_getElem hie, Option.bind_eq_some_iff] at he
            obtain ⟨cs, hcs, htr⟩ := he
            obtain ⟨p, h1, h2, h3⟩ := ih e cs _ hLe' htr (List.all_eq_true.2 fun z hz => List.all_eq_true.1 hw2 z (List.mem_append.2 (.inl (weights_all (List.mem_map.2 ⟨_, List.getElem_mem hie, rfl⟩) z hz))))
            exact ⟨p, cs, hcs, h1, h2, h3⟩)
          have key : ∀ (j : Nat) (row : List IV), rows[j]? = some row → row.length = P.cellsOf e ∧ ∀ (i : Nat) (y : IV), row[i]? = some y → ∃ v, W.cell? ⟨a.block, a.off + j * P.cellsOf e + i, none⟩ = some v ∧ IRep M W y v ∧ (∀ t x, v ≠ .iface t x) ∧ (j = 0 → i = 0 → a.spot = none) := by
            intro j row hj
            obtain ⟨cs, hcs, hlr, hq, _⟩ := hrq j row hj
            obtain ⟨_, hcl, hcell⟩ := World.cells?_some hcs
            refine ⟨by omega, fun i y hy => ?_⟩
            obtain ⟨v, hv, hr, hn⟩ := hq i y hy
            have hi : i < P.cellsOf e := by have := (List.getElem?_eq_some_iff.1 hy).1; omega
            have hc := hcell i hi
            rw [hv] at hc
            have hsp : ((a.add (j * P.cellsOf e)).add i).spot = none := by
              cases hs : ((a.add (j * P.cellsOf e)).add i).spot with
              | none => rfl
              | some q =>
                simp only [World.cell?, hs, Option.isSome_some] at hc
                split at hc <;> cases hc
            have hee : (a.add (j * P.cellsOf e)).add i = ⟨a.block, a.off + j * P.cellsOf e + i, none⟩ := by
              generalize j * P.cellsOf e = q at hsp
              obtain ⟨ab, ao, asp⟩ := a
              simp only [Addr.add] at hsp ⊢
              by_cases hq0 : q = 0 <;> by_cases hi0 : i = 0 <;> simp_all
            refine ⟨v, by rw [hee] at hc; exact hc, hr, hn, fun hj0 hi0 => ?_⟩
            subst hj0; subst hi0
            simpa [Addr.add] using hsp
          have hkey : ∀ (j i : Nat) (row : List IV) (y : IV), rows[j]? = some row → row[i]? = some y → IRep M W y ((W.cell? ⟨a.block, a.off + j * P.cellsOf e + i, none⟩).getD undef) ∧ W.cell? ⟨a.block, a.off + j * P.cellsOf e + i, none⟩ = some ((W.cell? ⟨a.block, a.off + j * P.cellsOf e + i, none⟩).getD undef) := by
            intro j i row y hj hy
            obtain ⟨v, hv, hr, _, _⟩ := (key j row hj).2 i y hy
            rw [hv]
            exact ⟨hr, rfl⟩
          refine ⟨[.sl (P.cellsOf e) rows], rfl, fun i y hy => ?_, by
            simp only [IShape, hu]
            have hlw : rows.length * P.bytesOf e ≤ reachBytes := by
              rw [hrl]
              refine Nat.le_trans (Nat.mul_le_mul_right _ ?_) hw1
              simp only [List.length_map]; omega
            refine ⟨rows, rfl, hlw, fun r hr => ?_⟩
            obtain ⟨i, hi⟩ := List.getElem?_of_mem hr
            exact (hrq i r hi).choose_spec.2.2.2⟩
          rcases i with _ | i
          · simp at hy; subst hy
            refine ⟨_, rfl, ?_, by intro t x h; cases h⟩
            have := IRep.sl (M := M) (w := W) (P.cellsOf e) rows (some a) cap a.block a.off (fun j i => (W.cell? ⟨a.block, a.off + j * P.cellsOf e + i, none⟩).getD undef) (fun j row hj => (key j row hj).1) (by omega) (by omega) (fun h0 => ?_) (fun j row i y hj hy => (hkey j i row y hj hy).2) (fun j row i y hj hy => (hkey j i row y hj hy).1)
            · rw [hrl] at this; exact this
            · have hr0 := List.getElem?_eq_getElem h0
              obtain ⟨hl0, hk0⟩ := key 0 _ hr0
              have hp0 : 0 < rows[0].length := by omega
              obtain ⟨v, hv, _, hn, hs⟩ := hk0 0 _ (List.getElem?_eq_getElem hp0)
              have hs' := hs rfl rfl
              refine ⟨?_, hM ⟨a.block, a.off + 0 * P.cellsOf e + 0, none⟩ v hv hn, cell_lt (a := ⟨a.block, a.off + 0 * P.cellsOf e + 0, none⟩) hv⟩
              obtain ⟨ab, ao, asp⟩ := a
              simp only at hs'
              subst hs'; rfl
          · simp at hy
      | _ => simp at hp
end Go.Av

