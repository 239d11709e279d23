/-
  The walk of the law that tells, and trees that came in; no condition.
-/
import Derived.Test.YtoomnhcglmnajaaGreatDoorAvThree
import Derived.Test.YtoomnhcglmnajaaGreatDoorAvVals
import Derived.Test.YtoomnhcglmnajaaGreatDoorAvTreeW
import Derived.Test.YtoomnhcglmnajaaGreatDoorAvPutW
set_option linter.unusedVariables false
set_option linter.unusedSimpArgs false
namespace Go.Av
open Go.RowKit Go.Proofs.Tryz

theorem fits_mk {k a b m : Int} {c : Cls} {z : Bool} {ks : List Nd} (hc : c.length ≤ 1000000) (hk : ks.length ≤ 1000000) (h : ∀ y ∈ ks, Fits y) : Fits (.mk k c a b z m ks) := by
  have all : ∀ l : List Nd, (∀ y ∈ l, Fits y) → FitsL l := by
    intro l
    induction l with
    | nil => intro _; trivial
    | cons x r ih => intro h; exact ⟨h x (by simp), ih fun y hy => h y (by simp [hy])⟩
  exact ⟨by omega, by omega, all ks h⟩
theorem ok_fits {x : Nd} (h : Ok x) : x.size ≤ 1000000 → Fits x := by
  induction h with
  | empty => intro _; exact fits_mk (by simp) (by simp) (by simp)
  | one c h => intro _; exact fits_mk (by have := h.len; omega) (by simp) (by simp)
  | plain k h => intro _; exact fits_mk (by simp) (by simp) (by simp)
  | cat ks hl h hk ih =>
    intro hs
    simp only [Nd.size] at hs
    have := length_le_ndSize ks
    exact fits_mk (by simp) (by omega) fun y hy => ih y hy (by have := ndSize_mem hy; omega)
  | alt ks hl h hk ih =>
    intro hs
    simp only [Nd.size] at hs
    have := length_le_ndSize ks
    exact fits_mk (by simp) (by omega) fun y hy => ih y hy (by have := ndSize_mem hy; omega)
  | rep a b z x h0 h1 hb h ih =>
    intro hs
    simp only [repN, Nd.size, ndSize] at hs
    exact fits_mk (by simp) (by simp) fun y hy => by simp at hy; subst hy; exact ih (by omega)
  | group m x h ih =>
    intro hs
    simp only [groupN, Nd.size, ndSize] at hs
    exact fits_mk (by simp) (by simp) fun y hy => by simp at hy; subst hy; exact ih (by omega)
theorem fits_leaf (b : Int) : Fits (leafN b) := by
  have hn : (notL [⟨97, 97⟩]).length = 2 := by decide
  unfold leafN
  repeat' split
  · exact fits_mk (by simp) (by simp) (by simp)
  · exact fits_mk (by simp) (by simp) (by simp)
  · exact fits_mk (by simp) (by simp) (by simp)
  · exact fits_mk (by simp) (by simp) (by simp)
  · exact fits_mk (by simp) (by simp) (by simp)
  · exact fits_mk (by omega) (by simp) (by simp)
  · exact fits_mk (by simp) (by simp) (by simp)
theorem fits_rep {b : Int} {x : Nd} {plain : Bool} (h : Fits x) : Fits (repeatN b x plain) := fits_mk (by simp) (by simp) fun y hy => by simp at hy; subst hy; exact h
theorem fits_step (plain : Bool) (q : List Nd × Int) (b : Int) (h : ∀ y ∈ q.1, Fits y) : ∀ y ∈ (stepN plain q b).1, Fits y := by
  obtain ⟨r, g⟩ := q
  simp only at h
  cases r with
  | nil => intro y hy; simp [stepN] at hy; subst hy; exact fits_leaf b
  | cons u T =>
    have hu := h u (by simp)
    have hT : ∀ y ∈ T, Fits y := fun y hy => h y (by simp [hy])
    have hh : Fits (T.headD emptyN) := by
      cases T with
      | nil => exact fits_mk (by simp) (by simp) (by simp)
      | cons w t => exact hT w (by simp)
    have ht : ∀ y ∈ T.tail, Fits y := fun y hy => hT y (List.mem_of_mem_tail hy)
    have h2 : ∀ k : Int, Fits (.mk k [] 0 0 false 0 [T.headD emptyN, u]) := fun k => fits_mk (by simp) (by simp) fun y hy => by
      rcases List.mem_cons.1 hy with rfl | hy
      · exact hh
      · simp at hy; subst hy; exact hu
    have h1 : Fits (groupN (g + 1) u) := fits_mk (by simp) (by simp) fun y hy => by simp at hy; subst hy; exact hu
    have cons_ : ∀ (x : Nd) (l : List Nd), Fits x → (∀ y ∈ l, Fits y) → ∀ y ∈ x :: l, Fits y := fun x l hx hl y hy => by
      rcases List.mem_cons.1 hy with rfl | hy
      · exact hx
      · exact hl y hy
    simp only [stepN]
    split
    · exact cons_ _ _ (h2 7) ht
    · split
      · exact cons_ _ _ (h2 6) ht
      · split
        · exact cons_ _ _ (fits_rep hu) hT
        · split
          · exact cons_ _ _ h1 hT
          · exact cons_ _ _ (fits_leaf b) h
theorem fits_fold (plain : Bool) : ∀ (l : List Int) (q : List Nd × Int), (∀ y ∈ q.1, Fits y) → ∀ y ∈ (l.foldl (stepN plain) q).1, Fits y
  | [], q, h => h
  | b :: r, q, h => fits_fold plain r _ (fits_step plain q b h)
theorem fits_tree (plain : Bool) (l : List Int) : Fits (treeN plain l) := by
  have h := fits_fold plain (l.take 16) ([], 0) (by simp)
  unfold treeN
  generalize ((l.take 16).foldl (stepN plain) ([], 0)).1 = r at h
  cases r with
  | nil => exact fits_mk (by simp) (by simp) (by simp)
  | cons x t => exact h x (by simp)
def treeOf (plain own : Bool) (l : List Int) (x : Nd) : Nd := if own then treeN plain l else x
theorem fits_of {plain own : Bool} {l : List Int} {x : Nd} (h : Fits x) : Fits (treeOf plain own l x) := by
  unfold treeOf
  split
  · exact fits_tree plain l
  · exact h

theorem f3_ok (x y : Nd) (ox oy : Bool) (lx ly l : List Int) (hx : Fits x) (hy : Fits y) (hlx : ∀ b ∈ lx, 0 ≤ b) (hly : ∀ b ∈ ly, 0 ≤ b) (hl : ∀ b ∈ l, 0 ≤ b) :
    Ret prog 3 [.agg ((boxTree x ox lx).map .iv), .agg ((boxTree y oy ly).map .iv), .one (.iv (.sl 1 (l.map u8Row)))] (.one (sct (.bool true))) := by
  have tx := f10_ok x ox false lx hlx
  have ty := f10_ok y oy false ly hly
  have fa := fits_of (plain := false) (own := ox) (l := lx) hx
  have fb := fits_of (plain := false) (own := oy) (l := ly) hy
  rw [show (if ox then treeN false lx else x) = treeOf false ox lx x from rfl] at tx
  rw [show (if oy then treeN false ly else y) = treeOf false oy ly y from rfl] at ty
  generalize treeOf false ox lx x = A at tx fa
  generalize treeOf false oy ly y = B at ty fb
  have hS := f16_ok A B
  have hSr := f17_ok A B
  have hR := f18_ok A
  have hRr := f19_ok A
  have hZ := f20w_ok A
  have hZr := f21_ok A
  have hG := f22_ok A
  have hGr := f23_ok A
  have hA := f15_ok A fa
  have hB := f15_ok B fb
  have h12 := f12_ok l hl
  have hv := pat_nice l hl
  generalize hs : patB l = s at hv h12
  generalize Nd.same A B = qS at hS hSr
  generalize A.right = qR at hR hRr
  generalize sizeW A.size = qZ at hZ hZr
  generalize A.groups = qG at hG hGr
  cases x with
  | mk kx cx ax bx zx mx ksx =>
  cases y with
  | mk ky cy ay by_ zy my ksy =>
  cases A with
  | mk ka ca aa ba za ma ksa =>
  cases B with
  | mk kb cb ab bb zb mb ksb =>
  refine .of r3_ok (by simp [boxTree, Nd.cells, clsIV]) (.one (by simp)) (by simp [r3]) ?_
  simp only [oo, on, og, om, ol, oh, zN, ci, r3, initTm, Nat.reduceAdd, boxTree, Nd.cells, ndRows_eq, List.cons_append, List.nil_append, List.map_cons, List.map_nil]
  simp only [boxTree, encN_mk, Nd.cells, ndRows_eq, List.cons_append, List.nil_append, List.map_cons, List.map_nil] at tx ty hA hB hS hSr hR hRr hZ hZr hG hGr
  simp -implicitDefEqProofs only [ev, ↓reduceIte, Nat.reduceAdd, Nat.reduceEqDiff, Nat.reduceLeDiff, reduceCtorEq]
  refine acall_ret f9_ok ?_
  simp -implicitDefEqProofs only [ev, ↓reduceIte, Nat.reduceAdd, Nat.reduceEqDiff, Nat.reduceLeDiff, reduceCtorEq]
  refine acall_ret tx ?_
  simp -implicitDefEqProofs only [ev, ↓reduceIte, Nat.reduceAdd, Nat.reduceEqDiff, Nat.reduceLeDiff, reduceCtorEq]
  refine acall_ret ty ?_
  simp -implicitDefEqProofs only [ev, ↓reduceIte, Nat.reduceAdd, Nat.reduceEqDiff, Nat.reduceLeDiff, reduceCtorEq]
  refine acall_ret h12 ?_
  simp -implicitDefEqProofs only [ev, ↓reduceIte, Nat.reduceAdd, Nat.reduceEqDiff, Nat.reduceLeDiff, reduceCtorEq]
  cases hp : parseF s with
  | error ca =>
    obtain ⟨cc, a⟩ := ca
    obtain ⟨hc, ha0, ha1⟩ := parse_err hp
    have h3 : parse3 s = (emptyN, a, cc) := by simp [parse3, hp]
    have pA := ret_parse h3
    simp only [emptyN, encN_mk, ndRows_eq, List.map_nil] at pA
    have hc0 : (cc != 0) = true := by simp; omega
    refine acall_ret pA ?_
    simp -implicitDefEqProofs only [ev, ↓reduceIte, Nat.reduceAdd, Nat.reduceEqDiff, Nat.reduceLeDiff, reduceCtorEq, hc0]
    refine dcall_ret hS ?_
    simp -implicitDefEqProofs only [ev, ↓reduceIte, Nat.reduceAdd, Nat.reduceEqDiff, Nat.reduceLeDiff, reduceCtorEq]
    refine dcall_ret hA ?_
    simp -implicitDefEqProofs only [ev, ↓reduceIte, Nat.reduceAdd, Nat.reduceEqDiff, Nat.reduceLeDiff, reduceCtorEq]
    refine dcall_ret hB ?_
    simp -implicitDefEqProofs only [ev, ↓reduceIte, Nat.reduceAdd, Nat.reduceEqDiff, Nat.reduceLeDiff, reduceCtorEq]
    refine dcall_ret hSr ?_
    simp -implicitDefEqProofs only [ev, ↓reduceIte, Nat.reduceAdd, Nat.reduceEqDiff, Nat.reduceLeDiff, reduceCtorEq]
    refine dcall_ret hR ?_
    simp -implicitDefEqProofs only [ev, ↓reduceIte, Nat.reduceAdd, Nat.reduceEqDiff, Nat.reduceLeDiff, reduceCtorEq]
    refine dcall_ret hA ?_
    simp -implicitDefEqProofs only [ev, ↓reduceIte, Nat.reduceAdd, Nat.reduceEqDiff, Nat.reduceLeDiff, reduceCtorEq]
    refine dcall_ret hRr ?_
    simp -implicitDefEqProofs only [ev, ↓reduceIte, Nat.reduceAdd, Nat.reduceEqDiff, Nat.reduceLeDiff, reduceCtorEq]
    refine dcall_ret hZ ?_
    simp -implicitDefEqProofs only [ev, ↓reduceIte, Nat.reduceAdd, Nat.reduceEqDiff, Nat.reduceLeDiff, reduceCtorEq]
    refine dcall_ret hA ?_
    simp -implicitDefEqProofs only [ev, ↓reduceIte, Nat.reduceAdd, Nat.reduceEqDiff, Nat.reduceLeDiff, reduceCtorEq]
    refine dcall_ret hZr ?_
    simp -implicitDefEqProofs only [ev, ↓reduceIte, Nat.reduceAdd, Nat.reduceEqDiff, Nat.reduceLeDiff, reduceCtorEq]
    refine dcall_ret hG ?_
    simp -implicitDefEqProofs only [ev, ↓reduceIte, Nat.reduceAdd, Nat.reduceEqDiff, Nat.reduceLeDiff, reduceCtorEq]
    refine dcall_ret hA ?_
    simp -implicitDefEqProofs only [ev, ↓reduceIte, Nat.reduceAdd, Nat.reduceEqDiff, Nat.reduceLeDiff, reduceCtorEq]
    refine dcall_ret hGr ?_
    simp -implicitDefEqProofs only [ev, ↓reduceIte, Nat.reduceAdd, Nat.reduceEqDiff, Nat.reduceLeDiff, reduceCtorEq]
    exact fin_same (.one (by simp)) ⟨rfl, rfl⟩
  | ok z =>
    obtain ⟨hok, _, hsz, _⟩ := parse_ok hv hp
    have h3 : parse3 s = (z, (s.size : Int), 0) := by simp [parse3, hp]
    have pA := ret_parse h3
    have p1 := f13_ok z (ok_put hok) (by omega)
    have p2 := f14_ok z hok (by omega)
    have p3 := f15_ok z (ok_fits hok (by omega))
    have hz : ((0 : Int) != 0) = false := rfl
    generalize putB z = T at p1 p2
    have tt : (T.toList == T.toList) = true := beq_self_eq_true _
    cases z with
    | mk kz cz az bz zz mz ksz =>
    simp only [encN_mk, ndRows_eq] at pA p3
    simp only [Nd.cells, ndRows_eq, List.map_cons, List.map_nil] at p1 p2 p3
    refine acall_ret pA ?_
    simp -implicitDefEqProofs only [ev, ↓reduceIte, Nat.reduceAdd, Nat.reduceEqDiff, Nat.reduceLeDiff, reduceCtorEq, hz]
    refine dcall_ret p1 ?_
    simp -implicitDefEqProofs only [ev, ↓reduceIte, Nat.reduceAdd, Nat.reduceEqDiff, Nat.reduceLeDiff, reduceCtorEq]
    refine dcall_ret p3 ?_
    simp -implicitDefEqProofs only [ev, ↓reduceIte, Nat.reduceAdd, Nat.reduceEqDiff, Nat.reduceLeDiff, reduceCtorEq]
    refine dcall_ret p2 ?_
    simp -implicitDefEqProofs only [ev, ↓reduceIte, Nat.reduceAdd, Nat.reduceEqDiff, Nat.reduceLeDiff, reduceCtorEq, tt]
    refine dcall_ret hS ?_
    simp -implicitDefEqProofs only [ev, ↓reduceIte, Nat.reduceAdd, Nat.reduceEqDiff, Nat.reduceLeDiff, reduceCtorEq]
    refine dcall_ret hA ?_
    simp -implicitDefEqProofs only [ev, ↓reduceIte, Nat.reduceAdd, Nat.reduceEqDiff, Nat.reduceLeDiff, reduceCtorEq]
    refine dcall_ret hB ?_
    simp -implicitDefEqProofs only [ev, ↓reduceIte, Nat.reduceAdd, Nat.reduceEqDiff, Nat.reduceLeDiff, reduceCtorEq]
    refine dcall_ret hSr ?_
    simp -implicitDefEqProofs only [ev, ↓reduceIte, Nat.reduceAdd, Nat.reduceEqDiff, Nat.reduceLeDiff, reduceCtorEq]
    refine dcall_ret hR ?_
    simp -implicitDefEqProofs only [ev, ↓reduceIte, Nat.reduceAdd, Nat.reduceEqDiff, Nat.reduceLeDiff, reduceCtorEq]
    refine dcall_ret hA ?_
    simp -implicitDefEqProofs only [ev, ↓reduceIte, Nat.reduceAdd, Nat.reduceEqDiff, Nat.reduceLeDiff, reduceCtorEq]
    refine dcall_ret hRr ?_
    simp -implicitDefEqProofs only [ev, ↓reduceIte, Nat.reduceAdd, Nat.reduceEqDiff, Nat.reduceLeDiff, reduceCtorEq]
    refine dcall_ret hZ ?_
    simp -implicitDefEqProofs only [ev, ↓reduceIte, Nat.reduceAdd, Nat.reduceEqDiff, Nat.reduceLeDiff, reduceCtorEq]
    refine dcall_ret hA ?_
    simp -implicitDefEqProofs only [ev, ↓reduceIte, Nat.reduceAdd, Nat.reduceEqDiff, Nat.reduceLeDiff, reduceCtorEq]
    refine dcall_ret hZr ?_
    simp -implicitDefEqProofs only [ev, ↓reduceIte, Nat.reduceAdd, Nat.reduceEqDiff, Nat.reduceLeDiff, reduceCtorEq]
    refine dcall_ret hG ?_
    simp -implicitDefEqProofs only [ev, ↓reduceIte, Nat.reduceAdd, Nat.reduceEqDiff, Nat.reduceLeDiff, reduceCtorEq]
    refine dcall_ret hA ?_
    simp -implicitDefEqProofs only [ev, ↓reduceIte, Nat.reduceAdd, Nat.reduceEqDiff, Nat.reduceLeDiff, reduceCtorEq]
    refine dcall_ret hGr ?_
    simp -implicitDefEqProofs only [ev, ↓reduceIte, Nat.reduceAdd, Nat.reduceEqDiff, Nat.reduceLeDiff, reduceCtorEq]
    exact fin_same (.one (by simp)) ⟨rfl, rfl⟩
end Go.Av

namespace Go.Av
open Go.ChangeShapes Go.WideShapes Go.ChangeAt Go.RowKit Go.Proofs

/-! ### trees that came in -/
theorem int_of {n : Nat} {t : TypeId} {k : IntKind} {l : List IV} (ht : Tryz.prog.underlying t = some (.int k)) (h : IShape Tryz.prog n t l) : ∃ m, l = [.sc (.int k m)] ∧ (Lit.int k m).wf = true := by
  cases n with
  | zero => exact h.elim
  | succ n =>
    simp only [IShape, ht] at h
    exact h
theorem bool_of {n : Nat} {t : TypeId} {l : List IV} (ht : Tryz.prog.underlying t = some .bool) (h : IShape Tryz.prog n t l) : ∃ b, l = [.sc (.bool b)] := by
  cases n with
  | zero => exact h.elim
  | succ n =>
    simp only [IShape, ht] at h
    exact h
theorem slice_of {n : Nat} {t e : TypeId} {l : List IV} (ht : Tryz.prog.underlying t = some (.slice e)) (h : IShape Tryz.prog n t l) : ∃ m rows, n = m + 1 ∧ l = [.sl (Tryz.prog.cellsOf e) rows] ∧ rows.length * Tryz.prog.bytesOf e ≤ reachBytes ∧ ∀ r ∈ rows, IShape Tryz.prog m e r := by
  cases n with
  | zero => exact h.elim
  | succ n =>
    simp only [IShape, ht] at h
    obtain ⟨rows, h1, h2, h3⟩ := h
    exact ⟨n, rows, rfl, h1, h2, h3⟩
theorem struct_of {n : Nat} {t : TypeId} {fs : Array Field} {l : List IV} (ht : Tryz.prog.underlying t = some (.struct fs)) (h : IShape Tryz.prog n t l) : ∃ (m : Nat) (parts : List (List IV)), n = m + 1 ∧ l = parts.flatten ∧ parts.length = fs.toList.length ∧ ∀ (i : Nat) (f : Field), fs.toList[i]? = some f → ∃ p, parts[i]? = some p ∧ IShape Tryz.prog m f.type p := by
  cases n with
  | zero => exact h.elim
  | succ n =>
    simp only [IShape, ht] at h
    obtain ⟨parts, h1, h2, h3⟩ := h
    exact ⟨n, parts, rfl, h1, h2, h3⟩
theorem range_of {n : Nat} {l : List IV} (h : IShape Tryz.prog n 86 l) : ∃ r : Rg, l = r.cells := by
  obtain ⟨m, parts, rfl, rfl, hl, hp⟩ := struct_of Tryz.underlying86 h
  obtain ⟨p0, e0, s0⟩ := hp 0 _ rfl
  obtain ⟨p1, e1, s1⟩ := hp 1 _ rfl
  obtain ⟨a, rfl, _⟩ := int_of Tryz.underlying21 s0
  obtain ⟨b, rfl, _⟩ := int_of Tryz.underlying21 s1
  rcases parts with _ | ⟨q0, _ | ⟨q1, _ | ⟨q2, qs⟩⟩⟩
  · simp at hl
  · simp at hl
  · simp at e0 e1
    subst e0; subst e1
    exact ⟨⟨a, b⟩, rfl⟩
  · simp at hl
theorem cls_of {n : Nat} {l : List IV} (h : IShape Tryz.prog n 23 l) : ∃ c : Cls, l = [clsIV c] ∧ c.length * 8 ≤ 140737488355328 := by
  obtain ⟨m, rows, rfl, rfl, hw, hr⟩ := slice_of Tryz.underlying23 h
  rw [show Tryz.prog.cellsOf 86 = 2 by kernel_rfl]
  rw [show Tryz.prog.bytesOf 86 = 8 by kernel_rfl] at hw
  obtain ⟨c, rfl⟩ := rows_all (f := Rg.cells) (rows := rows) fun r hr' => range_of (hr r hr')
  refine ⟨c, rfl, ?_⟩
  have : reachBytes = 140737488351232 := by decide
  simp only [List.length_map] at hw
  omega
theorem node_of : ∀ (n : Nat) (l : List IV), IShape Tryz.prog n 26 l → ∃ x : Nd, l = x.cells ∧ Fits x := by
  intro n
  induction n using Nat.strongRecOn with
  | ind n ih =>
    intro l h
    obtain ⟨m, parts, rfl, rfl, hl, hp⟩ := struct_of Tryz.underlying26 h
    obtain ⟨p0, e0, s0⟩ := hp 0 _ rfl
    obtain ⟨p1, e1, s1⟩ := hp 1 _ rfl
    obtain ⟨p2, e2, s2⟩ := hp 2 _ rfl
    obtain ⟨p3, e3, s3⟩ := hp 3 _ rfl
    obtain ⟨p4, e4, s4⟩ := hp 4 _ rfl
    obtain ⟨p5, e5, s5⟩ := hp 5 _ rfl
    obtain ⟨p6, e6, s6⟩ := hp 6 _ rfl
    obtain ⟨k, rfl, _⟩ := int_of Tryz.underlying3 s0
    obtain ⟨c, rfl, hc⟩ := cls_of s1
    obtain ⟨a, rfl, _⟩ := int_of Tryz.underlying3 s2
    obtain ⟨b, rfl, _⟩ := int_of Tryz.underlying3 s3
    obtain ⟨z, rfl⟩ := bool_of Tryz.underlying4 s4
    obtain ⟨g, rfl, _⟩ := int_of Tryz.underlying3 s5
    obtain ⟨m2, rows, rfl, rfl, hw, hr⟩ := slice_of Tryz.underlying24 s6
    rw [show Tryz.prog.bytesOf 26 = 88 by kernel_rfl] at hw
    have hks : ∀ rs : List (List IV), (∀ r ∈ rs, IShape Tryz.prog m2 26 r) → ∃ ks : List Nd, rs = ks.map Nd.cells ∧ FitsL ks := by
      intro rs
      induction rs with
      | nil => intro _; exact ⟨[], rfl, trivial⟩
      | cons r rs ih2 =>
        intro hh
        obtain ⟨x, rfl, hx⟩ := ih m2 (by omega) r (hh _ (List.mem_cons_self ..))
        obtain ⟨ks, rfl, hf⟩ := ih2 fun q hq => hh q (List.mem_cons_of_mem _ hq)
        exact ⟨x :: ks, rfl, hx, hf⟩
    obtain ⟨ks, rfl, hf⟩ := hks rows hr
    rcases parts with _ | ⟨q0, _ | ⟨q1, _ | ⟨q2, _ | ⟨q3, _ | ⟨q4, _ | ⟨q5, _ | ⟨q6, _ | ⟨q7, qs⟩⟩⟩⟩⟩⟩⟩⟩
    all_goals try (simp at hl; done)
    simp at e0 e1 e2 e3 e4 e5 e6
    subst e0; subst e1; subst e2; subst e3; subst e4; subst e5; subst e6
    refine ⟨.mk k c a b z g ks, ?_, hc, ?_, hf⟩
    · rw [Nd.cells, ndRows_eq, show Tryz.prog.cellsOf 26 = 7 by kernel_rfl]; rfl
    · have : reachBytes = 140737488351232 := by decide
      simp only [List.length_map] at hw
      omega
theorem u8_of {n : Nat} {l : List IV} (h : IShape Tryz.prog n 27 l) : ∃ lx : List Int, l = [.sl 1 (lx.map u8Row)] ∧ ∀ b ∈ lx, 0 ≤ b := by
  obtain ⟨m, rows, rfl, rfl, hw, hr⟩ := slice_of Tryz.underlying27 h
  rw [show Tryz.prog.cellsOf 5 = 1 by kernel_rfl]
  have hks : ∀ rs : List (List IV), (∀ r ∈ rs, IShape Tryz.prog m 5 r) → ∃ lx : List Int, rs = lx.map u8Row ∧ ∀ b ∈ lx, 0 ≤ b := by
    intro rs
    induction rs with
    | nil => intro _; exact ⟨[], rfl, by simp⟩
    | cons r rs ih2 =>
      intro hh
      obtain ⟨x, rfl, hx⟩ := int_of Tryz.underlying5 (hh r (List.mem_cons_self ..))
      obtain ⟨lx, rfl, hf⟩ := ih2 fun q hq => hh q (List.mem_cons_of_mem _ hq)
      refine ⟨x :: lx, rfl, fun b hb => ?_⟩
      rcases List.mem_cons.1 hb with rfl | hb
      · exact (u8_wf hx).1
      · exact hf b hb
  obtain ⟨lx, rfl, hf⟩ := hks rows hr
  exact ⟨lx, rfl, hf⟩
theorem tree_of {n : Nat} {l : List IV} (h : IShape Tryz.prog n 29 l) : ∃ (x : Nd) (own : Bool) (lx : List Int), l = boxTree x own lx ∧ Fits x ∧ ∀ b ∈ lx, 0 ≤ b := by
  obtain ⟨m, parts, rfl, rfl, hl, hp⟩ := struct_of Tryz.underlying29 h
  obtain ⟨p0, e0, s0⟩ := hp 0 _ rfl
  obtain ⟨p1, e1, s1⟩ := hp 1 _ rfl
  obtain ⟨p2, e2, s2⟩ := hp 2 _ rfl
  obtain ⟨x, rfl, hx⟩ := node_of _ _ s0
  obtain ⟨o, rfl⟩ := bool_of Tryz.underlying4 s1
  obtain ⟨lx, rfl, hlx⟩ := u8_of s2
  rcases parts with _ | ⟨q0, _ | ⟨q1, _ | ⟨q2, _ | ⟨q3, qs⟩⟩⟩⟩
  all_goals try (simp at hl; done)
  simp at e0 e1 e2
  subst e0; subst e1; subst e2
  exact ⟨x, o, lx, by simp [boxTree], hx, hlx⟩

theorem agg_rep {W : World} {l : List IV} {cs : Array Value} (hs : l.length = cs.size) (h : ∀ (i : Nat) (y : IV), l[i]? = some y → ∃ u, cs.toList[i]? = some u ∧ IRep (Mut Hp.nil.bs rho0) W y u) : LRep Hp.nil rho0 W (.agg (l.map .iv)) (.agg cs) := by
  refine .agg _ _ (fun i => (cs.toList[i]?).getD undef) (by simp [hs]) (fun i y hy => ?_) (fun i y hy => ?_)
  · rw [List.getElem?_map] at hy
    obtain ⟨z, hz, rfl⟩ := Option.map_eq_some_iff.1 hy
    obtain ⟨u, hu, _⟩ := h i z hz
    rw [hu]
    simpa using hu
  · rw [List.getElem?_map] at hy
    obtain ⟨z, hz, rfl⟩ := Option.map_eq_some_iff.1 hy
    obtain ⟨u, hu, hr⟩ := h i z hz
    rw [hu]
    exact .iv _ _ hr
/-- A tree that came in. -/
theorem tree_in {H : Type} {enc : TypeId × Value → H} {W : World} (hL : laidMetH Tryz.prog laidL W) {base : Nat} {sp : Nat → Bool} {held : Bool} {cs : Array Value} {d : DataW H} {p : List MemPlace} (h : DataW.Trod enc Tryz.prog W base sp held 29 (.agg cs) d p)
    (hw : (d.weights Tryz.prog 29).all (· ≤ reachBytes) = true) : ∃ (x : Nd) (own : Bool) (lx : List Int), Fits x ∧ (∀ b ∈ lx, 0 ≤ b) ∧ LRep Hp.nil rho0 W (.agg ((boxTree x own lx).map .iv)) (.agg cs) := by
  obtain ⟨n, l, h1, h2, h3⟩ := vals_in hL (L := [29, 26, 4, 27, 5, 3, 23, 86, 21, 24]) (by kernel_rfl) (by decide) h hw
  obtain ⟨x, o, lx, rfl, hx, hlx⟩ := tree_of h1
  exact ⟨x, o, lx, hx, hlx, agg_rep (by simpa [Value.cells] using h2) (by simpa [Value.cells] using h3)⟩
end Go.Av

