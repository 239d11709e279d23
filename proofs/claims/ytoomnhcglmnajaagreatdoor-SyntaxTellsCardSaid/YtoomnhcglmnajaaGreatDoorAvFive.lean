/-
  Contracts of functions of the classes and of the parser; no condition.
-/
import Derived.Test.YtoomnhcglmnajaaGreatDoorAvThree
import Derived.Test.YtoomnhcglmnajaaGreatDoorAvCode
import Derived.Test.YtoomnhcglmnajaaGreatDoorAvFour
set_option linter.unusedVariables false
set_option linter.unusedSimpArgs false
namespace Go.Av
open Go.RowKit Go.Proofs.Tryz

def rowsOf {α : Type} (f : α → List IV) (l : List α) : List (List AV) := l.map fun c => (f c).map AV.iv
theorem rowsOf_length {α : Type} (f : α → List IV) (l : List α) : (rowsOf f l).length = l.length := by simp [rowsOf]
theorem rowsOf_get {α : Type} (f : α → List IV) (l : List α) (i : Nat) : (rowsOf f l)[i]? = (l[i]?).map fun c => (f c).map AV.iv := by simp [rowsOf]
theorem rowsOf_set {α : Type} (f : α → List IV) (l : List α) (i : Nat) (x : α) : (rowsOf f l).set i ((f x).map AV.iv) = rowsOf f (l.set i x) := by simp [rowsOf]
theorem rowsOf_low {α : Type} {n : Nat} (f : α → List IV) (l : List α) : ∀ row ∈ rowsOf f l, ∀ x ∈ row, Low n x := low_rows l

def idxOf {α : Type} (p : α → Bool) (l : List α) : Int := match l.findIdx? p with
  | some i => i
  | none => -1

theorem f86_ok (r : Rg) : Ret prog 86 [.agg (r.cells.map .iv)] (.one (sct (.bool (!r.may)))) := by
  have h65 := f65_ok r
  refine .of r86_ok (by simp [Rg.cells]) (.one (by simp)) (by simp [r86]) ?_
  simp only [oo, on, og, om, ol, oh, zN, ci, r86, initTm, Nat.reduceAdd, Rg.cells, List.map_cons, List.map_nil] at h65 ⊢
  simp -implicitDefEqProofs only [ev, ↓reduceIte, Nat.reduceAdd, Nat.reduceEqDiff, Nat.reduceLeDiff, reduceCtorEq]
  refine acall_ret h65 ?_
  simp -implicitDefEqProofs only [ev, ↓reduceIte, Nat.reduceAdd, Nat.reduceEqDiff, Nat.reduceLeDiff, reduceCtorEq]
  exact fin_same (.one (by simp)) ⟨rfl, rfl⟩

theorem f100_own (g : FuncId) (l : List Rg) (E : Rg → Bool) (ver : Nat) (hB : HasB prog g) (hg : ∀ x ∈ l, Ret prog g [.agg (x.cells.map .iv)] (.one (sct (.bool (E x))))) :
    OwnF prog 100 [.one (.own 0 ver 0 l.length), .one (.iv (.sc (.func (.func g) #[] #[])))] 2 ver (rowsOf Rg.cells l) (fun lv rows' => lv = .one (sct (.int .i64 (idxOf E l))) ∧ rows' = rowsOf Rg.cells l) := by
  refine .of r100_ok (by simp) (rowsOf_low _ _) (by simp [r100]) ?_
  simp only [oo, on, og, om, ol, oh, zN, ci, r100, initTm, Nat.reduceAdd, heapO]
  simp -implicitDefEqProofs only [ev, ↓reduceIte, Nat.reduceAdd, Nat.reduceEqDiff, Nat.reduceLeDiff, reduceCtorEq, heapO]
  refine .mk fun h1 => ?_
  simp -implicitDefEqProofs only [ev, ↓reduceIte, Nat.reduceAdd, Nat.reduceEqDiff, Nat.reduceLeDiff, reduceCtorEq, awp_loop]
  refine aloop_mk (σ := Nat) (fun i => [(7, .one (sct (.int .i64 l.length))), (8, .one (sct (.int .i64 i))), (0, .one (.own 0 ver 0 l.length)), (1, .one (.iv (.sc (.func (.func g) #[] #[]))))])
    (fun _ => heapO 2 ver (rowsOf Rg.cells l)) (fun i => i ≤ l.length ∧ ∀ j x, j < i → l[j]? = some x → E x = false) (fun i => l.length - i) 0 (by simp) (wk_keep' (by simp) (by simp) ?_ ?_ ?_) ?_
  · simp [BsEq, Bs.get]
  · exact ⟨rowsOf_low _ _, trivial⟩
  · simp only [wk, ↓reduceIte, Nat.reduceEqDiff, reduceCtorEq, Nat.reduceLT]
    simp
  · rintro i ⟨hi, hE⟩
    simp only [oo, on, og, om, ol, oh, zN, ci, r100_l0, heapO]
    simp -implicitDefEqProofs only [ev, ↓reduceIte, Nat.reduceAdd, Nat.reduceEqDiff, Nat.reduceLeDiff, reduceCtorEq]
    refine .mk (fun h => ?_) (fun h => ?_)
    · have hlt : i < l.length := by simpa using h
      have hx := List.getElem?_eq_getElem hlt
      have hr := hg l[i] (List.getElem_mem hlt)
      cases hxe : l[i] with
      | mk lo hi' =>
        rw [hxe] at hr hx
        simp only [Rg.cells, List.map_cons, List.map_nil] at hr
        simp -implicitDefEqProofs only [ev, ↓reduceIte, Nat.reduceAdd, Nat.reduceEqDiff, Nat.reduceLeDiff, reduceCtorEq, Nat.zero_add, rowsOf_get, hx, Rg.cells, Int.natCast_nonneg]
        refine ⟨by omega, hB, acall_ret hr ?_⟩
        simp -implicitDefEqProofs only [ev, ↓reduceIte, Nat.reduceAdd, Nat.reduceEqDiff, Nat.reduceLeDiff, reduceCtorEq]
        refine .mk (fun hq => ?_) (fun hq => ?_)
        · simp -implicitDefEqProofs only [ev, ↓reduceIte, Nat.reduceAdd, Nat.reduceEqDiff, Nat.reduceLeDiff, reduceCtorEq]
          have : l.findIdx? E = some i := by
            rw [List.findIdx?_eq_some_iff_getElem]
            refine ⟨hlt, by rw [hxe]; exact hq, fun j hj => ?_⟩
            have := hE j l[j] hj (List.getElem?_eq_getElem (by omega))
            simp [this]
          exact fin_ownf Nat.zero_lt_one rfl (.one (.iv _)) (rowsOf_low _ _) ⟨by simp [idxOf, this, sct], rfl⟩
        · simp -implicitDefEqProofs only [ev, ↓reduceIte, Nat.reduceAdd, Nat.reduceEqDiff, Nat.reduceLeDiff, reduceCtorEq]
          refine ⟨i + 1, ⟨by omega, fun j x hj hxj => ?_⟩, by omega, wk_keep' (by simp) (by simp) ?_ ?_ ?_⟩
          · rcases Nat.lt_or_ge j i with hj' | hj'
            · exact hE j x hj' hxj
            · have : j = i := by omega
              subst this
              rw [hx] at hxj
              simp only [Option.some.injEq] at hxj
              subst hxj
              exact hq
          · simp [BsEq, Bs.get]
          · exact ⟨rowsOf_low _ _, trivial⟩
          · rw [wrap64 (by omega) (by omega)]
            simp only [wk, ↓reduceIte, Nat.reduceEqDiff, reduceCtorEq, Nat.reduceLT]
            simp
    · simp -implicitDefEqProofs only [ev, ↓reduceIte, Nat.reduceAdd, Nat.reduceEqDiff, Nat.reduceLeDiff, reduceCtorEq]
      have hi' : i = l.length := by simp at h; omega
      subst hi'
      have : l.findIdx? E = none := by
        rw [List.findIdx?_eq_none_iff]
        intro x hx
        obtain ⟨j, hj, rfl⟩ := List.mem_iff_getElem.1 hx
        exact hE j _ hj (List.getElem?_eq_getElem hj)
      exact fin_ownf Nat.zero_lt_one rfl (.one (.iv _)) (rowsOf_low _ _) ⟨by simp [idxOf, this, sct], rfl⟩

/-- What stays of a row, and the zeros behind it. -/
def delRows {α : Type} (f : α → List IV) (zero : List Value) (E : α → Bool) (l : List α) : List (List AV) :=
  rowsOf f (l.filter fun x => !E x) ++ List.replicate (l.length - (l.filter fun x => !E x).length) (zero.map sct)

theorem del_step {α : Type} {E : α → Bool} {l cur : List α} {i j : Nat} {x : α} (hij : i < j) (hj : j < l.length) (hx : l[j]? = some x) (hlen : cur.length = l.length) (h1 : cur.take i = (l.take j).filter fun x => !E x) (h2 : cur.drop j = l.drop j) (hE : E x = false) :
    (cur.set i x).take (i + 1) = (l.take (j + 1)).filter (fun x => !E x) ∧ (cur.set i x).drop (j + 1) = l.drop (j + 1) := by
  have hi : i < cur.length := by omega
  constructor
  · rw [List.take_add_one, List.take_set, List.getElem?_set_self hi, List.take_add_one, hx]
    rw [List.set_eq_of_length_le (by simp; omega), h1]
    simp [hE]
  · rw [List.drop_set_of_lt (by omega), ← List.drop_drop, ← List.drop_drop, h2]
theorem del_skip {α : Type} {E : α → Bool} {l cur : List α} {i j : Nat} {x : α} (hx : l[j]? = some x) (h1 : cur.take i = (l.take j).filter fun x => !E x) (h2 : cur.drop j = l.drop j) (hE : E x = true) :
    cur.take i = (l.take (j + 1)).filter (fun x => !E x) ∧ cur.drop (j + 1) = l.drop (j + 1) := by
  constructor
  · rw [List.take_add_one, hx, h1]; simp [hE]
  · rw [← List.drop_drop, ← List.drop_drop, h2]
theorem del_start {α : Type} {E : α → Bool} {l : List α} {i : Nat} (h : l.findIdx? E = some i) : i < l.length ∧ l.take i = (l.take (i + 1)).filter (fun x => !E x) := by
  rw [List.findIdx?_eq_some_iff_getElem] at h
  obtain ⟨h1, h2, h3⟩ := h
  refine ⟨h1, ?_⟩
  rw [List.take_add_one, List.getElem?_eq_getElem h1]
  simp only [Option.toList_some, List.filter_append, List.filter_cons, h2, Bool.not_true, Bool.false_eq_true, if_false, List.filter_nil, List.append_nil]
  symm
  rw [List.filter_eq_self]
  intro x hx
  obtain ⟨j, hj, rfl⟩ := List.mem_iff_getElem.1 hx
  simp only [List.length_take] at hj
  rw [List.getElem_take]
  simpa using h3 j (by omega)
theorem del_none {α : Type} {E : α → Bool} {l : List α} (h : l.findIdx? E = none) : l.filter (fun x => !E x) = l := by
  rw [List.findIdx?_eq_none_iff] at h
  rw [List.filter_eq_self]
  intro x hx
  simp [h x hx]

theorem f84_ok (g : FuncId) (l : List Rg) (E : Rg → Bool) (ver : Nat) (hlen : l.length ≤ 1099511627776) (hB : HasB prog g) (hg : ∀ x ∈ l, Ret prog g [.agg (x.cells.map .iv)] (.one (sct (.bool (E x))))) :
    OwnF prog 84 [.one (.own 0 ver 0 l.length), .one (.iv (.sc (.func (.func g) #[] #[])))] 2 ver (rowsOf Rg.cells l)
      (fun lv rows' => lv = .one (.own 0 ver 0 (l.filter fun x => !E x).length) ∧ rows' = delRows Rg.cells [.int .i32 0, .int .i32 0] E l) := by
  refine .of r84_ok (by simp) (rowsOf_low _ _) (by simp [r84]) ?_
  simp only [oo, on, og, om, ol, oh, zN, ci, r84, initTm, Nat.reduceAdd, heapO]
  simp -implicitDefEqProofs only [ev, ↓reduceIte, Nat.reduceAdd, Nat.reduceEqDiff, Nat.reduceLeDiff, reduceCtorEq, heapO]
  refine acall_own (b := 0) (f100_own g l E ver hB hg) rfl Nat.zero_lt_one (by simp [lrens, LV.ren, AV.ren, ridx]) ?_
  rintro lv rows' _ ⟨rfl, rfl⟩ _
  simp only [Bs.without, List.contains, List.elem, beq_self_eq_true, if_true, LV.ren, sct, AV.ren]
  cases hf : l.findIdx? E with
  | none =>
    have hdn := del_none hf
    have hi : idxOf E l = -1 := by simp [idxOf, hf]
    rw [hi]
    simp -implicitDefEqProofs only [ev, ↓reduceIte, Nat.reduceAdd, Nat.reduceEqDiff, Nat.reduceLeDiff, reduceCtorEq]
    refine fin_ownf (rows' := rowsOf Rg.cells l) Nat.zero_lt_two rfl (.one (.own _ _ _ _ Nat.zero_lt_one)) (rowsOf_low _ _) ⟨by rw [hdn], ?_⟩
    simp [delRows, hdn]
  | some i =>
    obtain ⟨hilt, hst⟩ := del_start hf
    have hi : idxOf E l = i := by simp [idxOf, hf]
    rw [hi]
    have hn1 : ((i : Int) == -1) = false := by rw [beq_eq_false_iff_ne]; omega
    simp -implicitDefEqProofs only [ev, ↓reduceIte, Nat.reduceAdd, Nat.reduceEqDiff, Nat.reduceLeDiff, reduceCtorEq, hn1, awp_loop]
    refine aloop_mk (σ := Nat × Nat × List Rg) (fun q => [(0, .one (.own 0 ver 0 l.length)), (1, .one (.iv (.sc (.func (.func g) #[] #[])))), (5, .one (sct (.int .i64 q.1))), (6, .one (sct (.int .i64 q.2.1)))])
      (fun q => heapO 2 ver (rowsOf Rg.cells q.2.2)) (fun q => q.1 < q.2.1 ∧ q.2.1 ≤ l.length ∧ q.2.2.length = l.length ∧ q.2.2.take q.1 = (l.take q.2.1).filter (fun x => !E x) ∧ q.2.2.drop q.2.1 = l.drop q.2.1) (fun q => l.length - q.2.1) (i, i + 1, l) ⟨by simp, by simp only; omega, rfl, hst, rfl⟩ (wk_keep' (by simp) (by simp) ?_ ?_ ?_) ?_
    · simp [BsEq, Bs.get]
    · exact ⟨rowsOf_low _ _, trivial⟩
    · rw [wrap64 (by omega) (by omega)]
      simp only [wk, ↓reduceIte, Nat.reduceEqDiff, reduceCtorEq, Nat.reduceLT]
      simp
    · rintro ⟨i, j, cur⟩ ⟨hij, hj, hcl, ht, hd⟩
      simp only at hij hj hcl ht hd
      have hcl' : (rowsOf Rg.cells cur).length = l.length := by rw [rowsOf_length, hcl]
      simp only [oo, on, og, om, ol, oh, zN, ci, r84_l0, heapO]
      simp -implicitDefEqProofs only [ev, ↓reduceIte, Nat.reduceAdd, Nat.reduceEqDiff, Nat.reduceLeDiff, reduceCtorEq]
      refine .mk fun h1 => ?_
      simp -implicitDefEqProofs only [ev, ↓reduceIte, Nat.reduceAdd, Nat.reduceEqDiff, Nat.reduceLeDiff, reduceCtorEq]
      refine .mk (fun h => ?_) (fun h => ?_)
      · have hlt : j < l.length := by simpa using h
        have hx := List.getElem?_eq_getElem hlt
        have hxc : cur[j]? = some l[j] := by
          have := congrArg (fun q => q[0]?) hd
          simpa [hlt] using this
        have hr := hg l[j] (List.getElem_mem hlt)
        cases hxe : l[j] with
        | mk lo hi' =>
          rw [hxe] at hr hx hxc
          simp only [Rg.cells, List.map_cons, List.map_nil] at hr
          have hil : i < cur.length := by omega
          have hig := List.getElem?_eq_getElem hil
          simp -implicitDefEqProofs only [ev, ↓reduceIte, Nat.reduceAdd, Nat.reduceEqDiff, Nat.reduceLeDiff, reduceCtorEq, Nat.zero_add, rowsOf_get, hxc, Rg.cells, Int.natCast_nonneg]
          refine ⟨by omega, hB, acall_ret hr ?_⟩
          simp -implicitDefEqProofs only [ev, ↓reduceIte, Nat.reduceAdd, Nat.reduceEqDiff, Nat.reduceLeDiff, reduceCtorEq]
          cases hE : E (.mk lo hi') with
          | true =>
            simp -implicitDefEqProofs only [ev, ↓reduceIte, Nat.reduceAdd, Nat.reduceEqDiff, Nat.reduceLeDiff, reduceCtorEq, hE]
            have hs := del_skip hx ht hd hE
            refine ⟨(i, j + 1, cur), ⟨by simp only; omega, by simp only; omega, hcl, hs⟩, by simp only; omega, wk_keep' (by simp) (by simp) ?_ ?_ ?_⟩
            · simp [BsEq, Bs.get]
            · exact ⟨rowsOf_low _ _, trivial⟩
            · rw [wrap64 (by omega) (by omega)]
              simp only [wk, ↓reduceIte, Nat.reduceEqDiff, reduceCtorEq, Nat.reduceLT]
              simp
          | false =>
            have hs := del_step hij hlt hx hcl ht hd hE
            have hset := rowsOf_set Rg.cells cur i (.mk lo hi')
            simp only [Rg.cells, List.map_cons, List.map_nil] at hset
            cases hci : cur[i] with
            | mk p q =>
              rw [hci] at hig
              simp -implicitDefEqProofs only [ev, ↓reduceIte, Nat.reduceAdd, Nat.reduceEqDiff, Nat.reduceLeDiff, reduceCtorEq, hE, Nat.zero_add, rowsOf_get, hig, Rg.cells, Int.natCast_nonneg]
              rw [hset]
              refine ⟨by omega, (i + 1, j + 1, cur.set i (.mk lo hi')), ⟨by simp only; omega, by simp only; omega, by simp [hcl], hs⟩, by simp only; omega, wk_keep' (by simp) (by simp) ?_ ?_ ?_⟩
              · simp [BsEq, Bs.get]
              · exact ⟨rowsOf_low _ _, trivial⟩
              · rw [wrap64 (by omega) (by omega), wrap64 (by omega) (by omega)]
                simp only [wk, ↓reduceIte, Nat.reduceEqDiff, reduceCtorEq, Nat.reduceLT]
                simp
      · have hjn : j = l.length := by simp at h; omega
        subst hjn
        have hpos : 0 < l.length - i := by omega
        simp -implicitDefEqProofs only [ev, ↓reduceIte, Nat.reduceAdd, Nat.reduceEqDiff, Nat.reduceLeDiff, reduceCtorEq, Nat.zero_add, hpos]
        refine ⟨⟨by omega, by omega, Int.le_refl _⟩, ⟨Int.le_refl _, by omega, by omega⟩, ?_⟩
        rw [List.take_length] at ht
        have hm : (l.filter fun x => !E x).length = i := by
          rw [← ht, List.length_take]; omega
        refine fin_ownf (rows' := delRows Rg.cells [.int .i32 0, .int .i32 0] E l) Nat.zero_lt_one ?_ (.one (.own _ _ _ _ Nat.zero_lt_one)) ?_ ⟨by rw [hm]; rfl, rfl⟩
        · have e1 : List.drop (i + (l.length - i)) (rowsOf Rg.cells cur) = [] := by
            apply List.drop_eq_nil_of_le; rw [rowsOf_length]; omega
          have e2 : List.take i (rowsOf Rg.cells cur) = rowsOf Rg.cells (l.filter fun x => !E x) := by
            rw [← ht]; simp [rowsOf]
          simp only [Bs.get, if_true, e1, e2, List.append_nil, delRows, hm, List.map_cons, List.map_nil, sct]
        · intro row hr x hx
          rcases List.mem_append.1 hr with h | h
          · exact rowsOf_low _ _ row h x hx
          · obtain ⟨_, rfl⟩ := List.mem_replicate.1 h
            obtain ⟨v, _, rfl⟩ := List.mem_map.1 hx
            exact .iv _
theorem f64_own (g : FuncId) (l : List Nd) (E : Nd → Bool) (ver : Nat) (hB : HasB prog g) (hg : ∀ x ∈ l, Ret prog g [.agg (x.cells.map .iv)] (.one (sct (.bool (E x))))) :
    OwnF prog 64 [.one (.own 0 ver 0 l.length), .one (.iv (.sc (.func (.func g) #[] #[])))] 7 ver (rowsOf Nd.cells l) (fun lv rows' => lv = .one (sct (.int .i64 (idxOf E l))) ∧ rows' = rowsOf Nd.cells l) := by
  refine .of r64_ok (by simp) (rowsOf_low _ _) (by simp [r64]) ?_
  simp only [oo, on, og, om, ol, oh, zN, ci, r64, initTm, Nat.reduceAdd, heapO]
  simp -implicitDefEqProofs only [ev, ↓reduceIte, Nat.reduceAdd, Nat.reduceEqDiff, Nat.reduceLeDiff, reduceCtorEq, heapO]
  refine .mk fun h1 => ?_
  simp -implicitDefEqProofs only [ev, ↓reduceIte, Nat.reduceAdd, Nat.reduceEqDiff, Nat.reduceLeDiff, reduceCtorEq, awp_loop]
  refine aloop_mk (σ := Nat) (fun i => [(7, .one (sct (.int .i64 l.length))), (8, .one (sct (.int .i64 i))), (0, .one (.own 0 ver 0 l.length)), (1, .one (.iv (.sc (.func (.func g) #[] #[]))))])
    (fun _ => heapO 7 ver (rowsOf Nd.cells l)) (fun i => i ≤ l.length ∧ ∀ j x, j < i → l[j]? = some x → E x = false) (fun i => l.length - i) 0 (by simp) (wk_keep' (by simp) (by simp) ?_ ?_ ?_) ?_
  · simp [BsEq, Bs.get]
  · exact ⟨rowsOf_low _ _, trivial⟩
  · simp only [wk, ↓reduceIte, Nat.reduceEqDiff, reduceCtorEq, Nat.reduceLT]
    simp
  · rintro i ⟨hi, hE⟩
    simp only [oo, on, og, om, ol, oh, zN, ci, r64_l0, heapO]
    simp -implicitDefEqProofs only [ev, ↓reduceIte, Nat.reduceAdd, Nat.reduceEqDiff, Nat.reduceLeDiff, reduceCtorEq]
    refine .mk (fun h => ?_) (fun h => ?_)
    · have hlt : i < l.length := by simpa using h
      have hx := List.getElem?_eq_getElem hlt
      have hr := hg l[i] (List.getElem_mem hlt)
      cases hxe : l[i] with
      | mk k' c' a' b' z' m' ks' =>
        rw [hxe] at hr hx
        simp only [Nd.cells, List.map_cons, List.map_nil] at hr
        simp -implicitDefEqProofs only [ev, ↓reduceIte, Nat.reduceAdd, Nat.reduceEqDiff, Nat.reduceLeDiff, reduceCtorEq, Nat.zero_add, rowsOf_get, hx, Nd.cells, Int.natCast_nonneg]
        refine ⟨by omega, hB, acall_ret hr ?_⟩
        simp -implicitDefEqProofs only [ev, ↓reduceIte, Nat.reduceAdd, Nat.reduceEqDiff, Nat.reduceLeDiff, reduceCtorEq]
        refine .mk (fun hq => ?_) (fun hq => ?_)
        · simp -implicitDefEqProofs only [ev, ↓reduceIte, Nat.reduceAdd, Nat.reduceEqDiff, Nat.reduceLeDiff, reduceCtorEq]
          have : l.findIdx? E = some i := by
            rw [List.findIdx?_eq_some_iff_getElem]
            refine ⟨hlt, by rw [hxe]; exact hq, fun j hj => ?_⟩
            have := hE j l[j] hj (List.getElem?_eq_getElem (by omega))
            simp [this]
          exact fin_ownf Nat.zero_lt_one rfl (.one (.iv _)) (rowsOf_low _ _) ⟨by simp [idxOf, this, sct], rfl⟩
        · simp -implicitDefEqProofs only [ev, ↓reduceIte, Nat.reduceAdd, Nat.reduceEqDiff, Nat.reduceLeDiff, reduceCtorEq]
          refine ⟨i + 1, ⟨by omega, fun j x hj hxj => ?_⟩, by omega, wk_keep' (by simp) (by simp) ?_ ?_ ?_⟩
          · rcases Nat.lt_or_ge j i with hj' | hj'
            · exact hE j x hj' hxj
            · have : j = i := by omega
              subst this
              rw [hx] at hxj
              simp only [Option.some.injEq] at hxj
              subst hxj
              exact hq
          · simp [BsEq, Bs.get]
          · exact ⟨rowsOf_low _ _, trivial⟩
          · rw [wrap64 (by omega) (by omega)]
            simp only [wk, ↓reduceIte, Nat.reduceEqDiff, reduceCtorEq, Nat.reduceLT]
            simp
    · simp -implicitDefEqProofs only [ev, ↓reduceIte, Nat.reduceAdd, Nat.reduceEqDiff, Nat.reduceLeDiff, reduceCtorEq]
      have hi' : i = l.length := by simp at h; omega
      subst hi'
      have : l.findIdx? E = none := by
        rw [List.findIdx?_eq_none_iff]
        intro x hx
        obtain ⟨j, hj, rfl⟩ := List.mem_iff_getElem.1 hx
        exact hE j _ hj (List.getElem?_eq_getElem hj)
      exact fin_ownf Nat.zero_lt_one rfl (.one (.iv _)) (rowsOf_low _ _) ⟨by simp [idxOf, this, sct], rfl⟩
theorem f69_ok (g : FuncId) (l : List Nd) (E : Nd → Bool) (ver : Nat) (hlen : l.length ≤ 1099511627776) (hB : HasB prog g) (hg : ∀ x ∈ l, Ret prog g [.agg (x.cells.map .iv)] (.one (sct (.bool (E x))))) :
    OwnF prog 69 [.one (.own 0 ver 0 l.length), .one (.iv (.sc (.func (.func g) #[] #[])))] 7 ver (rowsOf Nd.cells l)
      (fun lv rows' => lv = .one (.own 0 ver 0 (l.filter fun x => !E x).length) ∧ rows' = delRows Nd.cells [.int .i64 0, .slice none 0 0, .int .i64 0, .int .i64 0, .bool false, .int .i64 0, .slice none 0 0] E l) := by
  refine .of r69_ok (by simp) (rowsOf_low _ _) (by simp [r69]) ?_
  simp only [oo, on, og, om, ol, oh, zN, ci, r69, initTm, Nat.reduceAdd, heapO]
  simp -implicitDefEqProofs only [ev, ↓reduceIte, Nat.reduceAdd, Nat.reduceEqDiff, Nat.reduceLeDiff, reduceCtorEq, heapO]
  refine acall_own (b := 0) (f64_own g l E ver hB hg) rfl Nat.zero_lt_one (by simp [lrens, LV.ren, AV.ren, ridx]) ?_
  rintro lv rows' _ ⟨rfl, rfl⟩ _
  simp only [Bs.without, List.contains, List.elem, beq_self_eq_true, if_true, LV.ren, sct, AV.ren]
  cases hf : l.findIdx? E with
  | none =>
    have hdn := del_none hf
    have hi : idxOf E l = -1 := by simp [idxOf, hf]
    rw [hi]
    simp -implicitDefEqProofs only [ev, ↓reduceIte, Nat.reduceAdd, Nat.reduceEqDiff, Nat.reduceLeDiff, reduceCtorEq]
    refine fin_ownf (rows' := rowsOf Nd.cells l) Nat.zero_lt_two rfl (.one (.own _ _ _ _ Nat.zero_lt_one)) (rowsOf_low _ _) ⟨by rw [hdn], ?_⟩
    simp [delRows, hdn]
  | some i =>
    obtain ⟨hilt, hst⟩ := del_start hf
    have hi : idxOf E l = i := by simp [idxOf, hf]
    rw [hi]
    have hn1 : ((i : Int) == -1) = false := by rw [beq_eq_false_iff_ne]; omega
    simp -implicitDefEqProofs only [ev, ↓reduceIte, Nat.reduceAdd, Nat.reduceEqDiff, Nat.reduceLeDiff, reduceCtorEq, hn1, awp_loop]
    refine aloop_mk (σ := Nat × Nat × List Nd) (fun q => [(0, .one (.own 0 ver 0 l.length)), (1, .one (.iv (.sc (.func (.func g) #[] #[])))), (5, .one (sct (.int .i64 q.1))), (6, .one (sct (.int .i64 q.2.1)))])
      (fun q => heapO 7 ver (rowsOf Nd.cells q.2.2)) (fun q => q.1 < q.2.1 ∧ q.2.1 ≤ l.length ∧ q.2.2.length = l.length ∧ q.2.2.take q.1 = (l.take q.2.1).filter (fun x => !E x) ∧ q.2.2.drop q.2.1 = l.drop q.2.1) (fun q => l.length - q.2.1) (i, i + 1, l) ⟨by simp, by simp only; omega, rfl, hst, rfl⟩ (wk_keep' (by simp) (by simp) ?_ ?_ ?_) ?_
    · simp [BsEq, Bs.get]
    · exact ⟨rowsOf_low _ _, trivial⟩
    · rw [wrap64 (by omega) (by omega)]
      simp only [wk, ↓reduceIte, Nat.reduceEqDiff, reduceCtorEq, Nat.reduceLT]
      simp
    · rintro ⟨i, j, cur⟩ ⟨hij, hj, hcl, ht, hd⟩
      simp only at hij hj hcl ht hd
      have hcl' : (rowsOf Nd.cells cur).length = l.length := by rw [rowsOf_length, hcl]
      simp only [oo, on, og, om, ol, oh, zN, ci, r69_l0, heapO]
      simp -implicitDefEqProofs only [ev, ↓reduceIte, Nat.reduceAdd, Nat.reduceEqDiff, Nat.reduceLeDiff, reduceCtorEq]
      refine .mk fun h1 => ?_
      simp -implicitDefEqProofs only [ev, ↓reduceIte, Nat.reduceAdd, Nat.reduceEqDiff, Nat.reduceLeDiff, reduceCtorEq]
      refine .mk (fun h => ?_) (fun h => ?_)
      · have hlt : j < l.length := by simpa using h
        have hx := List.getElem?_eq_getElem hlt
        have hxc : cur[j]? = some l[j] := by
          have := congrArg (fun q => q[0]?) hd
          simpa [hlt] using this
        have hr := hg l[j] (List.getElem_mem hlt)
        cases hxe : l[j] with
        | mk k' c' a' b' z' m' ks' =>
          rw [hxe] at hr hx hxc
          simp only [Nd.cells, List.map_cons, List.map_nil] at hr
          have hil : i < cur.length := by omega
          have hig := List.getElem?_eq_getElem hil
          simp -implicitDefEqProofs only [ev, ↓reduceIte, Nat.reduceAdd, Nat.reduceEqDiff, Nat.reduceLeDiff, reduceCtorEq, Nat.zero_add, rowsOf_get, hxc, Nd.cells, Int.natCast_nonneg]
          refine ⟨by omega, hB, acall_ret hr ?_⟩
          simp -implicitDefEqProofs only [ev, ↓reduceIte, Nat.reduceAdd, Nat.reduceEqDiff, Nat.reduceLeDiff, reduceCtorEq]
          cases hE : E (.mk k' c' a' b' z' m' ks') with
          | true =>
            simp -implicitDefEqProofs only [ev, ↓reduceIte, Nat.reduceAdd, Nat.reduceEqDiff, Nat.reduceLeDiff, reduceCtorEq, hE]
            have hs := del_skip hx ht hd hE
            refine ⟨(i, j + 1, cur), ⟨by simp only; omega, by simp only; omega, hcl, hs⟩, by simp only; omega, wk_keep' (by simp) (by simp) ?_ ?_ ?_⟩
            · simp [BsEq, Bs.get]
            · exact ⟨rowsOf_low _ _, trivial⟩
            · rw [wrap64 (by omega) (by omega)]
              simp only [wk, ↓reduceIte, Nat.reduceEqDiff, reduceCtorEq, Nat.reduceLT]
              simp
          | false =>
            have hs := del_step hij hlt hx hcl ht hd hE
            have hset := rowsOf_set Nd.cells cur i (.mk k' c' a' b' z' m' ks')
            simp only [Nd.cells, List.map_cons, List.map_nil] at hset
            cases hci : cur[i] with
            | mk k1 c1 a1 b1 z1 m1 ks1 =>
              rw [hci] at hig
              simp -implicitDefEqProofs only [ev, ↓reduceIte, Nat.reduceAdd, Nat.reduceEqDiff, Nat.reduceLeDiff, reduceCtorEq, hE, Nat.zero_add, rowsOf_get, hig, Nd.cells, Int.natCast_nonneg]
              rw [hset]
              refine ⟨by omega, (i + 1, j + 1, cur.set i (.mk k' c' a' b' z' m' ks')), ⟨by simp only; omega, by simp only; omega, by simp [hcl], hs⟩, by simp only; omega, wk_keep' (by simp) (by simp) ?_ ?_ ?_⟩
              · simp [BsEq, Bs.get]
              · exact ⟨rowsOf_low _ _, trivial⟩
              · rw [wrap64 (by omega) (by omega), wrap64 (by omega) (by omega)]
                simp only [wk, ↓reduceIte, Nat.reduceEqDiff, reduceCtorEq, Nat.reduceLT]
                simp
      · have hjn : j = l.length := by simp at h; omega
        subst hjn
        have hpos : 0 < l.length - i := by omega
        simp -implicitDefEqProofs only [ev, ↓reduceIte, Nat.reduceAdd, Nat.reduceEqDiff, Nat.reduceLeDiff, reduceCtorEq, Nat.zero_add, hpos]
        refine ⟨⟨by omega, by omega, Int.le_refl _⟩, ⟨Int.le_refl _, by omega, by omega⟩, ?_⟩
        rw [List.take_length] at ht
        have hm : (l.filter fun x => !E x).length = i := by
          rw [← ht, List.length_take]; omega
        refine fin_ownf (rows' := delRows Nd.cells [.int .i64 0, .slice none 0 0, .int .i64 0, .int .i64 0, .bool false, .int .i64 0, .slice none 0 0] E l) Nat.zero_lt_one ?_ (.one (.own _ _ _ _ Nat.zero_lt_one)) ?_ ⟨by rw [hm]; rfl, rfl⟩
        · have e1 : List.drop (i + (l.length - i)) (rowsOf Nd.cells cur) = [] := by
            apply List.drop_eq_nil_of_le; rw [rowsOf_length]; omega
          have e2 : List.take i (rowsOf Nd.cells cur) = rowsOf Nd.cells (l.filter fun x => !E x) := by
            rw [← ht]; simp [rowsOf]
          simp only [Bs.get, if_true, e1, e2, List.append_nil, delRows, hm, List.map_cons, List.map_nil, sct]
        · intro row hr x hx
          rcases List.mem_append.1 hr with h | h
          · exact rowsOf_low _ _ row h x hx
          · obtain ⟨_, rfl⟩ := List.mem_replicate.1 h
            obtain ⟨v, _, rfl⟩ := List.mem_map.1 hx
            exact .iv _

def Nd.kind : Nd → Int
  | .mk k _ _ _ _ _ _ => k
theorem f70_ok (x : Nd) : Ret prog 70 [.agg (x.cells.map .iv)] (.one (sct (.bool (x.kind == 0)))) := by
  cases x with
  | mk k c a b z m ks =>
  refine .of r70_ok (by simp [Nd.cells, clsIV]) (.one (by simp)) (by simp [r70]) ?_
  simp only [oo, on, og, om, ol, oh, zN, ci, r70, initTm, Nat.reduceAdd, Nd.cells, List.map_cons, List.map_nil, Nd.kind]
  simp -implicitDefEqProofs only [ev, ↓reduceIte, Nat.reduceAdd, Nat.reduceEqDiff, Nat.reduceLeDiff, reduceCtorEq]
  exact fin_same (.one (by simp)) ⟨rfl, rfl⟩
theorem hasB70 : HasB prog 70 := hasBb_ok (by kernel_rfl)
theorem hasB86 : HasB prog 86 := hasBb_ok (by kernel_rfl)
end Go.Av

namespace Go.Av
open Go.RowKit Go.Proofs.Tryz

theorem f85_ok (r : Rg) (l : Cls) (hb : l.length ≤ 1099511627776) : RetNew prog 85 [.one (.iv (clsIV (r :: l)))] 2 (rowsOf Rg.cells (r :: l)) := by
  refine ⟨calls_of_rsv r85_ok (by simp [r85]) ?_, by simp, rowsOf_low _ _⟩
  simp only [oo, on, og, om, ol, oh, zN, ci, r85, initTm, Nat.reduceAdd, clsIV, List.map_cons]
  simp -implicitDefEqProofs only [ev, ↓reduceIte, Nat.reduceAdd, Nat.reduceEqDiff, Nat.reduceLeDiff, reduceCtorEq, Hp.nil]
  refine ⟨⟨by omega, by omega⟩, ?_⟩
  have e : rowsOf Rg.cells (r :: l) = [] ++ List.map AV.iv r.cells :: List.map (fun r => List.map AV.iv r) (List.map Rg.cells l) := by simp [rowsOf]
  have e2 : 0 + (List.length l + 1) = (rowsOf Rg.cells (r :: l)).length := by rw [rowsOf_length, List.length_cons]; omega
  rw [← e, e2]
  exact fin_new rfl Nat.zero_lt_one (rowsOf_low _ _) ⟨1, rfl, rfl⟩
end Go.Av

namespace Go.Av
open Go.RowKit Go.Proofs.Tryz

def SortedLo (l : Cls) : Prop := l.Pairwise fun a b => a.lo ≤ b.lo

/-- What the sort does. -/
def SortC : Prop := ∀ (ver : Nat) (l z : Cls), l.length + z.length ≤ 1099511627776 → OwnF prog 87 [.one (.own 0 ver 0 l.length), .one (.iv (.sc (.func (.func 88) #[] #[])))] 2 ver (rowsOf Rg.cells (l ++ z))
  (fun lv rows' => lv = .tup [] ∧ ∃ l' : Cls, l'.Perm l ∧ SortedLo l' ∧ rows' = rowsOf Rg.cells (l' ++ z))

def mergeStep (out : Cls) (r : Rg) : Cls := match out.getLast? with
  | some q => if r.lo ≤ q.hi + 1 then out.dropLast ++ [⟨q.lo, imax q.hi r.hi⟩] else out ++ [r]
  | none => [r]

def insLo (r : Rg) : Cls → Cls
  | [] => [r]
  | q :: l => if r.lo ≤ q.lo then r :: q :: l else q :: insLo r l
def sortLo : Cls → Cls
  | [] => []
  | r :: l => insLo r (sortLo l)

def ofL (l : Cls) : Cls := (sortLo (l.filter Rg.may)).foldl mergeStep []

def MergeC : Prop := ∀ l l' : Cls, l'.Perm (l.filter Rg.may) → SortedLo l' → l'.foldl mergeStep [] = ofL l

theorem delRows_rg (E : Rg → Bool) (l : Cls) : delRows Rg.cells [.int .i32 0, .int .i32 0] E l = rowsOf Rg.cells ((l.filter fun x => !E x) ++ List.replicate (l.length - (l.filter fun x => !E x).length) ⟨0, 0⟩) := by
  simp [delRows, rowsOf, Rg.cells, sct]

theorem f67_ok (hS : SortC) (hM : MergeC) (r0 : Rg) (l : Cls) (hb : l.length ≤ 1000000) : Ret prog 67 [.one (.iv (clsIV (r0 :: l)))] (.one (.iv (clsIV (ofL (r0 :: l))))) := by
  refine .of r67_ok (by simp) (.one (by simp)) (by simp [r67]) ?_
  simp only [oo, on, og, om, ol, oh, zN, ci, r67, initTm, Nat.reduceAdd]
  simp -implicitDefEqProofs only [ev, ↓reduceIte, Nat.reduceAdd, Nat.reduceEqDiff, Nat.reduceLeDiff, reduceCtorEq, Hp.nil]
  refine acall_new [] (f85_ok r0 l (by omega)) (.cons (.refl _) .nil) ?_
  intro ver
  simp only [Hp.prep_nil, Nat.zero_add]
  simp -implicitDefEqProofs only [ev, ↓reduceIte, Nat.reduceAdd, Nat.reduceEqDiff, Nat.reduceLeDiff, reduceCtorEq]
  rw [rowsOf_length]
  refine acall_own (b := 0) (f84_ok 86 (r0 :: l) (fun r => !r.may) ver (by simp; omega) hasB86 (fun x _ => f86_ok x)) rfl Nat.zero_lt_one (by simp [lrens, LV.ren, AV.ren, ridx]) ?_
  rintro lv rows' _ ⟨rfl, rfl⟩ _
  simp only [Bool.not_not, delRows_rg]
  generalize hl1 : List.filter (fun x => x.may) (r0 :: l) = l1
  have hl1l : l1.length ≤ l.length + 1 := by rw [← hl1]; exact Nat.le_trans (List.length_filter_le _ _) (by simp)
  generalize hz : List.replicate ((r0 :: l).length - l1.length) (⟨0, 0⟩ : Rg) = z
  have hzl : l1.length + z.length = l.length + 1 := by rw [← hz]; simp; omega
  simp only [Bs.without, List.contains, List.elem, beq_self_eq_true, if_true, LV.ren, AV.ren, ridx, List.getElem?_cons_zero]
  simp -implicitDefEqProofs only [ev, ↓reduceIte, Nat.reduceAdd, Nat.reduceEqDiff, Nat.reduceLeDiff, reduceCtorEq]
  refine acall_own (b := 0) (hS ver l1 z (by omega)) rfl Nat.zero_lt_two (by simp [lrens, LV.ren, AV.ren, ridx]) ?_
  rintro lv rows' _ ⟨rfl, l2, hp, hs, rfl⟩ _
  have hl2 : l2.length = l1.length := hp.length_eq
  have hres := hM (r0 :: l) l2 (hl1 ▸ hp) hs
  have hmay : ∀ r ∈ l2, r.may = true := fun r hr => by
    have := hp.mem_iff.1 hr
    rw [← hl1] at this
    exact (List.mem_filter.1 this).2
  simp only [Bs.without, List.contains, List.elem, beq_self_eq_true, if_true]
  simp -implicitDefEqProofs only [ev, ↓reduceIte, Nat.reduceAdd, Nat.reduceEqDiff, Nat.reduceLeDiff, reduceCtorEq]
  refine .mk fun h1 => ?_
  simp -implicitDefEqProofs only [ev, ↓reduceIte, Nat.reduceAdd, Nat.reduceEqDiff, Nat.reduceLeDiff, reduceCtorEq, awp_loop]
  refine aloop_mk (σ := Nat × Cls × Nat) (fun q => [(13, .one (.own 0 ver 0 l1.length)), (14, .one (sct (.int .i64 l1.length))), (15, .one (sct (.int .i64 q.1))), (4, .one (.own 3 q.2.2 0 q.2.1.length))])
    (fun q => ⟨[(0, .cells 2 ver (rowsOf Rg.cells (l2 ++ z)) false), (3, .cells 2 q.2.2 (rowsOf Rg.cells q.2.1) false)], 4⟩)
    (fun q => q.1 ≤ l1.length ∧ q.2.1.length ≤ q.1 ∧ q.2.1 = (l2.take q.1).foldl mergeStep [] ∧ ∀ r ∈ q.2.1, r.hi ≤ 1114111 ∧ 0 ≤ r.hi) (fun q => l1.length - q.1) (0, [], 0) ⟨by simp, by simp, rfl, by simp⟩ (wk_conv [] [2] (by simp) (by simp [Hp.prep, Hp.freeze, Hp.ghost, Hp.new]) (by simp) ?_ ?_ ?_) ?_
  · simp [BsEq, Hp.prep, Hp.freeze, Hp.ghost, Hp.new, Bs.freeze, Bs.get, rowsOf]
  · exact ⟨rowsOf_low _ _, rowsOf_low _ _, trivial⟩
  · refine ⟨⟨by simp, _, rfl, .refl _⟩, ⟨by simp, _, rfl, .refl _⟩, ⟨by simp, _, rfl, .refl _⟩, ⟨by simp, _, rfl, .one (.nilOwn 3 0 2 [] false ?_ ?_)⟩, trivial⟩
    · simp [Hp.prep, Hp.freeze, Hp.ghost, Hp.new, Bs.freeze, Bs.get]
    · simp [Hp.prep, Hp.freeze, Hp.ghost, Hp.new]
  · rintro ⟨i, out, ver2⟩ ⟨hi, hol, hE, hhi⟩
    simp only at hi hol hE hhi
    simp only [oo, on, og, om, ol, oh, zN, ci, r67_l0]
    simp -implicitDefEqProofs only [ev, ↓reduceIte, Nat.reduceAdd, Nat.reduceEqDiff, Nat.reduceLeDiff, reduceCtorEq]
    refine .mk (fun h => ?_) (fun h => ?_)
    · have hlt : i < l1.length := by simpa using h
      have hlt2 : i < l2.length := by omega
      have hx : (l2 ++ z)[i]? = some l2[i] := by rw [List.getElem?_append_left hlt2, List.getElem?_eq_getElem hlt2]
      have htk : l2.take (i + 1) = l2.take i ++ [l2[i]] := by rw [List.take_add_one, List.getElem?_eq_getElem hlt2]; rfl
      have hm := hmay l2[i] (List.getElem_mem hlt2)
      cases hxe : l2[i] with
      | mk lo hi' =>
        rw [hxe] at hx htk hm
        simp -implicitDefEqProofs only [ev, ↓reduceIte, Nat.reduceAdd, Nat.reduceEqDiff, Nat.reduceLeDiff, reduceCtorEq, Nat.zero_add, rowsOf_get, hx, Rg.cells, Int.natCast_nonneg]
        refine ⟨by omega, ?_⟩
        refine .mk fun h2 => ?_
        cases hm0 : decide ((out.length : Int) > 0) with
        | true =>
          have hne : out ≠ [] := by intro e; subst e; simp at hm0
          obtain ⟨init, ⟨ql, qh⟩, hout⟩ : ∃ init q, out = init ++ [q] := ⟨out.dropLast, out.getLast hne, (List.dropLast_concat_getLast hne).symm⟩
          have hlen : out.length = init.length + 1 := by rw [hout]; simp
          have hg : out[init.length]? = some ⟨ql, qh⟩ := by rw [hout]; simp
          have hw : IntKind.i64.wrap ((out.length : Int) - 1) = (init.length : Int) := by rw [wrap64 (by omega) (by omega)]; omega
          have hq := hhi ⟨ql, qh⟩ (by rw [hout]; simp)
          simp only at hq
          have hw2 : IntKind.i32.wrap (qh + 1) = qh + 1 := wrap32 (by omega) (by omega)
          cases hle : decide (lo ≤ qh + 1) with
          | true =>
            simp -implicitDefEqProofs only [ev, ↓reduceIte, Nat.reduceAdd, Nat.reduceEqDiff, Nat.reduceLeDiff, reduceCtorEq, hm0, hw, hg, Rg.cells, hw2, hle, Nat.zero_add, rowsOf_get, Int.natCast_nonneg]
            have hle' : lo ≤ qh + 1 := by simpa using hle
            have hms : mergeStep out ⟨lo, hi'⟩ = init ++ [⟨ql, imax qh hi'⟩] := by
              rw [hout]; simp [mergeStep, hle']
            have hset : (rowsOf Rg.cells out).set init.length [AV.iv (IV.sc (Value.int IntKind.i32 ql)), AV.iv (IV.sc (Value.int IntKind.i32 (imax qh hi')))] = rowsOf Rg.cells (init ++ [⟨ql, imax qh hi'⟩]) := by
              rw [hout]; simp [rowsOf, Rg.cells]
            have hmb : hi' ≤ 1114111 ∧ 0 ≤ hi' := by simp [Rg.may] at hm; omega
            have himx : imax qh hi' ≤ 1114111 ∧ 0 ≤ imax qh hi' := by unfold imax; split <;> omega
            refine ⟨by omega, by omega, by omega, (i + 1, mergeStep out ⟨lo, hi'⟩, ver2), ⟨by simp only; omega, ?_, by simp only [htk, List.foldl_append, List.foldl_cons, List.foldl_nil, ← hE], ?_⟩, by simp only; omega, wk_keep' (by simp) (by simp) ?_ ?_ ?_⟩
            · simp only [hms, List.length_append, List.length_cons, List.length_nil]; omega
            · intro r hr
              simp only [hms] at hr
              rcases List.mem_append.1 hr with h | h
              · exact hhi r (by rw [hout]; exact List.mem_append_left _ h)
              · simp only [List.mem_cons, List.not_mem_nil, or_false] at h
                subst h
                exact himx
            · rw [imax_def, hset]
              refine ⟨⟨by simp, by simp [Bs.get]⟩, ⟨by simp, ?_⟩, trivial⟩
              simp only [Bs.get, hms, if_true]
            · exact ⟨rowsOf_low _ _, rowsOf_low _ _, trivial⟩
            · rw [wrap64 (by omega) (by omega)]
              simp only [wk, ↓reduceIte, Nat.reduceEqDiff, reduceCtorEq, Nat.reduceLT]
              simp [hms, hlen]
          | false =>
            simp -implicitDefEqProofs only [ev, ↓reduceIte, Nat.reduceAdd, Nat.reduceEqDiff, Nat.reduceLeDiff, reduceCtorEq, hm0, hw, hg, Rg.cells, hw2, hle, Nat.zero_add, rowsOf_get, Int.natCast_nonneg]
            have hle' : ¬ lo ≤ qh + 1 := by simpa using hle
            have hms : mergeStep out ⟨lo, hi'⟩ = out ++ [⟨lo, hi'⟩] := by
              rw [hout]; simp [mergeStep, hle']
            have hmb : hi' ≤ 1114111 ∧ 0 ≤ hi' := by simp [Rg.may] at hm; omega
            refine ⟨by omega, ?_⟩
            refine ⟨⟨by omega, by omega⟩, (i + 1, mergeStep out ⟨lo, hi'⟩, ver2 + 1), ⟨by simp only; omega, ?_, by simp only [htk, List.foldl_append, List.foldl_cons, List.foldl_nil, ← hE], ?_⟩, by simp only; omega, wk_keep' (by simp) (by simp) ?_ ?_ ?_⟩
            · simp only [hms, List.length_append, List.length_cons, List.length_nil]; first | omega | done
            · intro r hr
              simp only [hms] at hr
              rcases List.mem_append.1 hr with h | h
              · exact hhi r h
              · simp only [List.mem_cons, List.not_mem_nil, or_false] at h
                subst h
                exact hmb
            · rw [List.take_of_length_le (by rw [rowsOf_length]; exact Nat.le_refl _)]
              refine ⟨⟨by simp, by simp [Bs.get]⟩, ⟨by simp, ?_⟩, trivial⟩
              simp only [Bs.get, hms, rowsOf, List.map_append, List.map_cons, List.map_nil, Rg.cells, Nat.reduceEqDiff, if_false, if_true]
            · exact ⟨rowsOf_low _ _, rowsOf_low _ _, trivial⟩
            · rw [wrap64 (by omega) (by omega)]
              simp only [wk, ↓reduceIte, Nat.reduceEqDiff, reduceCtorEq, Nat.reduceLT]
              simp [hms]
        | false =>
          have hne : out = [] := by cases out with
            | nil => rfl
            | cons a b => simp at hm0
          have hms : mergeStep out ⟨lo, hi'⟩ = out ++ [⟨lo, hi'⟩] := by rw [hne]; rfl
          have hmb : hi' ≤ 1114111 ∧ 0 ≤ hi' := by simp [Rg.may] at hm; omega
          simp -implicitDefEqProofs only [ev, ↓reduceIte, Nat.reduceAdd, Nat.reduceEqDiff, Nat.reduceLeDiff, reduceCtorEq, hm0]
          refine ⟨⟨by omega, by omega⟩, (i + 1, mergeStep out ⟨lo, hi'⟩, ver2 + 1), ⟨by simp only; omega, ?_, by simp only [htk, List.foldl_append, List.foldl_cons, List.foldl_nil, ← hE], ?_⟩, by simp only; omega, wk_keep' (by simp) (by simp) ?_ ?_ ?_⟩
          · simp only [hms, List.length_append, List.length_cons, List.length_nil]; first | omega | done
          · intro r hr
            simp only [hms] at hr
            rcases List.mem_append.1 hr with h | h
            · exact hhi r h
            · simp only [List.mem_cons, List.not_mem_nil, or_false] at h
              subst h
              exact hmb
          · rw [List.take_of_length_le (by rw [rowsOf_length]; exact Nat.le_refl _)]
            refine ⟨⟨by simp, by simp [Bs.get]⟩, ⟨by simp, ?_⟩, trivial⟩
            simp only [Bs.get, hms, rowsOf, List.map_append, List.map_cons, List.map_nil, Rg.cells, Nat.reduceEqDiff, if_false, if_true]
          · exact ⟨rowsOf_low _ _, rowsOf_low _ _, trivial⟩
          · rw [wrap64 (by omega) (by omega)]
            simp only [wk, ↓reduceIte, Nat.reduceEqDiff, reduceCtorEq, Nat.reduceLT]
            simp [hms]
    · simp -implicitDefEqProofs only [ev, ↓reduceIte, Nat.reduceAdd, Nat.reduceEqDiff, Nat.reduceLeDiff, reduceCtorEq]
      have hi' : i = l1.length := by simp at h; omega
      subst hi'
      refine fin_own (b := 3) (rows := rowsOf Rg.cells out) (rs := out.map Rg.cells) (f := false) rfl ?_ ⟨?_, rfl⟩
      · simp [rowsOf, List.take_of_length_le]
      · rw [← hl2, List.take_length, hres] at hE
        rw [hE]; rfl
end Go.Av

namespace Go.Av
open Go.RowKit Go.Proofs.Tryz

def OfC : Prop := ∀ (r0 : Rg) (l : Cls), l.length ≤ 1000000 → Ret prog 67 [.one (.iv (clsIV (r0 :: l)))] (.one (.iv (clsIV (ofL (r0 :: l)))))

theorem insLo_mem {r x : Rg} : ∀ {l : Cls}, x ∈ insLo r l ↔ x = r ∨ x ∈ l
  | [] => by simp [insLo]
  | q :: l => by
    simp only [insLo]
    split
    · simp
    · simp only [List.mem_cons, insLo_mem (l := l)]
      constructor
      · rintro (h | h | h) <;> simp [h]
      · rintro (h | h | h) <;> simp [h]
theorem sortLo_mem {x : Rg} : ∀ {l : Cls}, x ∈ sortLo l ↔ x ∈ l
  | [] => by simp [sortLo]
  | q :: l => by simp [sortLo, insLo_mem, sortLo_mem (l := l)]

theorem may_iff {r : Rg} : r.may = true ↔ 0 ≤ r.lo ∧ r.hi ≤ 1114111 ∧ r.lo ≤ r.hi := by simp [Rg.may]

theorem mergeStep_may {out : Cls} {r : Rg} (ho : ∀ x ∈ out, x.may = true) (hr : r.may = true) : ∀ x ∈ mergeStep out r, x.may = true := by
  intro x hx
  unfold mergeStep at hx
  split at hx
  · rename_i q hq
    have hqm := ho q (List.mem_of_getLast? hq)
    split at hx
    · rcases List.mem_append.1 hx with h | h
      · exact ho x (List.dropLast_subset _ h)
      · simp only [List.mem_cons, List.not_mem_nil, or_false] at h
        subst h
        rw [may_iff] at *
        simp only [imax]
        split <;> omega
    · rcases List.mem_append.1 hx with h | h
      · exact ho x h
      · simp only [List.mem_cons, List.not_mem_nil, or_false] at h
        subst h; exact hr
  · simp only [List.mem_cons, List.not_mem_nil, or_false] at hx
    subst hx; exact hr

theorem merge_may : ∀ {l out : Cls}, (∀ x ∈ out, x.may = true) → (∀ x ∈ l, x.may = true) → ∀ x ∈ l.foldl mergeStep out, x.may = true
  | [], out, ho, _ => ho
  | r :: l, out, ho, hl => by
    rw [List.foldl_cons]
    exact merge_may (out := mergeStep out r) (mergeStep_may ho (hl r (by simp))) (fun x hx => hl x (by simp [hx]))

theorem ofL_may (l : Cls) : ∀ x ∈ ofL l, x.may = true :=
  merge_may (by simp) (fun x hx => (List.mem_filter.1 (sortLo_mem.1 hx)).2)

theorem mergeStep_length (out : Cls) (r : Rg) : (mergeStep out r).length ≤ out.length + 1 := by
  unfold mergeStep
  split
  · split
    · simp
      first | omega | done
    · simp
  · simp
theorem merge_length : ∀ (l out : Cls), (l.foldl mergeStep out).length ≤ out.length + l.length
  | [], out => by simp
  | r :: l, out => by
    have h1 := merge_length l (mergeStep out r)
    have h2 := mergeStep_length out r
    simp only [List.foldl_cons, List.length_cons]; omega
theorem insLo_length (r : Rg) : ∀ l : Cls, (insLo r l).length = l.length + 1
  | [] => rfl
  | q :: l => by
    simp only [insLo]
    split
    · simp
    · simp [insLo_length r l]
theorem sortLo_length : ∀ l : Cls, (sortLo l).length = l.length
  | [] => rfl
  | r :: l => by simp [sortLo, insLo_length, sortLo_length l]
theorem ofL_length (l : Cls) : (ofL l).length ≤ l.length := by
  have h := merge_length (sortLo (l.filter Rg.may)) []
  rw [sortLo_length] at h
  have h2 := List.length_filter_le Rg.may l
  simp only [List.length_nil, Nat.zero_add] at h
  exact Nat.le_trans h h2

/-- All other runes: the ranges between. -/
def gaps : Cls → Int → Cls
  | [], low => [⟨low, 1114111⟩]
  | r :: l, low => ⟨low, r.lo - 1⟩ :: gaps l (r.hi + 1)
def notL (c : Cls) : Cls := ofL (gaps (ofL c) 0)

/-- How many runes there are. -/
def manyL (c : Cls) : Int := (ofL c).foldl (fun m r => m + (r.hi - r.lo + 1)) 0

def notStep (q : Cls × Int) (r : Rg) : Cls × Int := (q.1 ++ [⟨q.2, r.lo - 1⟩], r.hi + 1)
theorem gaps_fold : ∀ (l out : Cls) (low : Int), (l.foldl notStep (out, low)).1 ++ [⟨(l.foldl notStep (out, low)).2, 1114111⟩] = out ++ gaps l low
  | [], out, low => by simp [gaps]
  | r :: l, out, low => by
    simp only [List.foldl_cons, notStep, gaps]
    rw [gaps_fold l]
    simp
theorem gaps_ne (l : Cls) (low : Int) : ∃ r l', gaps l low = r :: l' := by cases l <;> exact ⟨_, _, rfl⟩
theorem gaps_length : ∀ (l : Cls) (low : Int), (gaps l low).length = l.length + 1
  | [], _ => rfl
  | r :: l, low => by simp [gaps, gaps_length l]

theorem f46_ok (hO : OfC) (r0 : Rg) (l : Cls) (hb : l.length ≤ 100000) : Ret prog 46 [.one (.iv (clsIV (r0 :: l)))] (.one (.iv (clsIV (notL (r0 :: l))))) := by
  refine .of r46_ok (by simp) (.one (by simp)) (by simp [r46]) ?_
  simp only [oo, on, og, om, ol, oh, zN, ci, r46, initTm, Nat.reduceAdd]
  simp -implicitDefEqProofs only [ev, ↓reduceIte, Nat.reduceAdd, Nat.reduceEqDiff, Nat.reduceLeDiff, reduceCtorEq, Hp.nil]
  refine acall_ret (hO r0 l (by omega)) ?_
  have hml := ofL_may (r0 :: l)
  have hll := ofL_length (r0 :: l)
  simp only [List.length_cons] at hll
  have hres : notL (r0 :: l) = ofL (gaps (ofL (r0 :: l)) 0) := rfl
  generalize ofL (r0 :: l) = c at hml hll hres ⊢
  simp only [clsIV]
  simp -implicitDefEqProofs only [ev, ↓reduceIte, Nat.reduceAdd, Nat.reduceEqDiff, Nat.reduceLeDiff, reduceCtorEq]
  refine .mk fun h1 => ?_
  simp -implicitDefEqProofs only [ev, ↓reduceIte, Nat.reduceAdd, Nat.reduceEqDiff, Nat.reduceLeDiff, reduceCtorEq, awp_loop]
  refine aloop_mk (σ := Nat × (Cls × Int) × Nat) (fun q => [(8, .one (.iv (.sl 2 (c.map Rg.cells)))), (9, .one (sct (.int .i64 c.length))), (10, .one (sct (.int .i64 q.1))), (3, .one (.own 0 q.2.2 0 q.2.1.1.length)), (4, .one (sct (.int .i32 q.2.1.2)))])
    (fun q => ⟨[(0, .cells 2 q.2.2 (rowsOf Rg.cells q.2.1.1) false)], 1⟩)
    (fun q => q.1 ≤ c.length ∧ q.2.1.1.length = q.1 ∧ q.2.1 = (c.take q.1).foldl notStep ([], 0)) (fun q => c.length - q.1) (0, ([], 0), 0) ⟨by simp, rfl, rfl⟩ (wk_conv [] [2] (by simp) (by simp [Hp.prep, Hp.freeze, Hp.ghost, Hp.new]) (by simp) ?_ ?_ ?_) ?_
  · simp [BsEq, Hp.prep, Hp.freeze, Hp.ghost, Hp.new, Bs.freeze, Bs.get, rowsOf]
  · exact ⟨rowsOf_low _ _, trivial⟩
  · refine ⟨⟨by simp, _, rfl, .refl _⟩, ⟨by simp, _, rfl, .refl _⟩, ⟨by simp, _, rfl, .refl _⟩, ⟨by simp, _, rfl, .one (.nilOwn 0 0 2 [] false ?_ ?_)⟩, ⟨by simp, _, rfl, .refl _⟩, trivial⟩
    · simp [Hp.prep, Hp.freeze, Hp.ghost, Hp.new, Bs.freeze, Bs.get]
    · simp [Hp.prep, Hp.freeze, Hp.ghost, Hp.new]
  · rintro ⟨i, ⟨out, low⟩, ver⟩ ⟨hi, hol, hE⟩
    simp only at hi hol hE
    simp only [oo, on, og, om, ol, oh, zN, ci, r46_l0]
    simp -implicitDefEqProofs only [ev, ↓reduceIte, Nat.reduceAdd, Nat.reduceEqDiff, Nat.reduceLeDiff, reduceCtorEq]
    refine .mk (fun h => ?_) (fun h => ?_)
    · have hlt : i < c.length := by simpa using h
      have hx := List.getElem?_eq_getElem hlt
      have htk : c.take (i + 1) = c.take i ++ [c[i]] := by rw [List.take_add_one, List.getElem?_eq_getElem hlt]; rfl
      have hm := hml c[i] (List.getElem_mem hlt)
      cases hxe : c[i] with
      | mk lo hi' =>
        rw [hxe] at hx htk hm
        simp only [may_iff] at hm
        simp -implicitDefEqProofs only [ev, ↓reduceIte, Nat.reduceAdd, Nat.reduceEqDiff, Nat.reduceLeDiff, reduceCtorEq, Nat.zero_add, List.getElem?_map, hx, Rg.cells, Int.natCast_nonneg]
        rw [wrap32 (n := lo - 1) (by omega) (by omega), wrap32 (n := hi' + 1) (by omega) (by omega), wrap64 (n := (i : Int) + 1) (by omega) (by omega)]
        refine ⟨⟨by omega, by omega⟩, (i + 1, (out ++ [⟨low, lo - 1⟩], hi' + 1), ver + 1), ⟨by simp only; omega, by simp [hol], by simp only [htk, List.foldl_append, List.foldl_cons, List.foldl_nil, ← hE, notStep]⟩, by simp only; omega, wk_keep' (by simp) (by simp) ?_ ?_ ?_⟩
        · rw [List.take_of_length_le (by rw [rowsOf_length]; exact Nat.le_refl _)]
          refine ⟨⟨by simp, ?_⟩, trivial⟩
          simp only [Bs.get, rowsOf, List.map_append, List.map_cons, List.map_nil, Rg.cells, Nat.reduceEqDiff, if_false, if_true]
        · exact ⟨rowsOf_low _ _, trivial⟩
        · simp only [wk, ↓reduceIte, Nat.reduceEqDiff, reduceCtorEq, Nat.reduceLT]
          simp
    · have hi' : i = c.length := by simp at h; omega
      subst hi'
      rw [List.take_length] at hE
      have hg := gaps_fold c [] 0
      rw [← hE] at hg
      simp only [List.nil_append] at hg
      obtain ⟨r1, l', hgl⟩ := gaps_ne c 0
      have hgn := gaps_length c 0
      rw [hgl] at hgn hg
      rw [hres, hgl]
      simp only [List.length_cons] at hgn
      simp -implicitDefEqProofs only [ev, ↓reduceIte, Nat.reduceAdd, Nat.reduceEqDiff, Nat.reduceLeDiff, reduceCtorEq]
      refine ⟨⟨by omega, by omega⟩, ?_⟩
      refine acall_ret_fz [0] (hO r1 l' (by omega)) (.cons (.one (cv_own (rows := rowsOf Rg.cells (r1 :: l')) (rs := (r1 :: l').map Rg.cells) (f := false) ?_ (by simp) ?_)) .nil) ?_
      · rw [← hg, List.take_of_length_le (by rw [rowsOf_length]; exact Nat.le_refl _)]
        simp only [Bs.get, if_true, rowsOf, List.map_append, List.map_cons, List.map_nil, Rg.cells]
      · rw [← hg]; simp [rowsOf, List.take_of_length_le]
      · simp -implicitDefEqProofs only [ev, ↓reduceIte, Nat.reduceAdd, Nat.reduceEqDiff, Nat.reduceLeDiff, reduceCtorEq]
        exact fin_same (.one (by simp)) ⟨rfl, rfl⟩
end Go.Av

namespace Go.Av
open Go.RowKit Go.Proofs.Tryz

def manyStep (m : Int) (r : Rg) : Int := m + (r.hi - r.lo + 1)
theorem many_bound : ∀ (l : Cls) (m : Int), (∀ r ∈ l, r.may = true) → m ≤ l.foldl manyStep m ∧ l.foldl manyStep m ≤ m + l.length * 1114112
  | [], m, _ => by simp
  | r :: l, m, h => by
    have hr := h r (by simp)
    rw [may_iff] at hr
    have := many_bound l (manyStep m r) (fun x hx => h x (by simp [hx]))
    simp only [List.foldl_cons, List.length_cons]
    simp only [manyStep] at *
    omega

theorem f126_ok (hO : OfC) (r0 : Rg) (l : Cls) (hb : l.length ≤ 100000) : Ret prog 126 [.one (.iv (clsIV (r0 :: l)))] (.one (sct (.int .i64 (manyL (r0 :: l))))) := by
  refine .of r126_ok (by simp) (.one (by simp)) (by simp [r126]) ?_
  simp only [oo, on, og, om, ol, oh, zN, ci, r126, initTm, Nat.reduceAdd]
  simp -implicitDefEqProofs only [ev, ↓reduceIte, Nat.reduceAdd, Nat.reduceEqDiff, Nat.reduceLeDiff, reduceCtorEq, Hp.nil]
  refine acall_ret (hO r0 l (by omega)) ?_
  have hml := ofL_may (r0 :: l)
  have hll := ofL_length (r0 :: l)
  simp only [List.length_cons] at hll
  have hres : manyL (r0 :: l) = (ofL (r0 :: l)).foldl manyStep 0 := rfl
  rw [hres]
  generalize ofL (r0 :: l) = c at hml hll hres ⊢
  simp only [clsIV]
  simp -implicitDefEqProofs only [ev, ↓reduceIte, Nat.reduceAdd, Nat.reduceEqDiff, Nat.reduceLeDiff, reduceCtorEq]
  refine .mk fun h1 => ?_
  simp -implicitDefEqProofs only [ev, ↓reduceIte, Nat.reduceAdd, Nat.reduceEqDiff, Nat.reduceLeDiff, reduceCtorEq, awp_loop]
  refine aloop_mk (σ := Nat) (fun q => [(7, .one (.iv (.sl 2 (c.map Rg.cells)))), (8, .one (sct (.int .i64 c.length))), (9, .one (sct (.int .i64 q))), (3, .one (sct (.int .i64 ((c.take q).foldl manyStep 0))))])
    (fun q => Hp.nil) (fun q => q ≤ c.length) (fun q => c.length - q) 0 (by simp) (wk_none ?_) ?_
  · simp only [wk, ↓reduceIte, Nat.reduceEqDiff, reduceCtorEq, Nat.reduceLT]
    simp
  · intro i hi
    simp only [oo, on, og, om, ol, oh, zN, ci, r126_l0]
    simp -implicitDefEqProofs only [ev, ↓reduceIte, Nat.reduceAdd, Nat.reduceEqDiff, Nat.reduceLeDiff, reduceCtorEq]
    refine .mk (fun h => ?_) (fun h => ?_)
    · have hlt : i < c.length := by simpa using h
      have hx := List.getElem?_eq_getElem hlt
      have htk : c.take (i + 1) = c.take i ++ [c[i]] := by rw [List.take_add_one, List.getElem?_eq_getElem hlt]; rfl
      have hm := hml c[i] (List.getElem_mem hlt)
      have hbd := many_bound (c.take i) 0 (fun r hr => hml r (List.mem_of_mem_take hr))
      have hbd2 := many_bound (c.take (i + 1)) 0 (fun r hr => hml r (List.mem_of_mem_take hr))
      simp only [List.length_take] at hbd hbd2
      cases hxe : c[i] with
      | mk lo hi' =>
        rw [hxe] at hx htk hm
        simp only [may_iff] at hm
        rw [htk, List.foldl_append, List.foldl_cons, List.foldl_nil] at hbd2
        generalize hS : (c.take i).foldl manyStep 0 = S at hbd hbd2
        simp only [manyStep] at hbd2
        simp -implicitDefEqProofs only [ev, ↓reduceIte, Nat.reduceAdd, Nat.reduceEqDiff, Nat.reduceLeDiff, reduceCtorEq, List.getElem?_map, hx, Rg.cells, Int.natCast_nonneg, hS]
        rw [wrap32 (n := hi' - lo) (by omega) (by omega), wrap64 (n := hi' - lo) (by omega) (by omega), wrap64 (n := hi' - lo + 1) (by omega) (by omega), wrap64 (n := S + (hi' - lo + 1)) (by omega) (by omega), wrap64 (n := (i : Int) + 1) (by omega) (by omega)]
        refine ⟨i + 1, by omega, by omega, wk_none ?_⟩
        simp only [wk, ↓reduceIte, Nat.reduceEqDiff, reduceCtorEq, Nat.reduceLT]
        simp [htk, hS, manyStep]
    · have hi' : i = c.length := by simp at h; omega
      subst hi'
      simp -implicitDefEqProofs only [ev, ↓reduceIte, Nat.reduceAdd, Nat.reduceEqDiff, Nat.reduceLeDiff, reduceCtorEq]
      refine fin_same (.one (by simp)) ⟨by rw [List.take_length], rfl⟩

/-- Room for so many, and none there. -/
theorem f139_ok (n : Nat) (h0 : 0 < n) (hn : n ≤ 1000000000) : CallsA prog 139 [.one (.iv (.sc (.slice none 0 0))), .one (sct (.int .i64 n))] Hp.nil (fun ae hp => ae = .ret (.one (.own 0 0 0 0)) ∧ hp = ⟨[(0, .cells 2 0 (List.replicate n [sct (.int .i32 0), sct (.int .i32 0)]) false)], 1⟩) := by
  refine calls_of_rsv r139_ok (by simp [r139]) ?_
  simp only [oo, on, og, om, ol, oh, zN, ci, r139, initTm, Nat.reduceAdd]
  have hlt : decide ((n : Int) < 0) = false := by simp
  have hw0 : IntKind.i64.wrap ((0 : Int) - 0) = 0 := rfl
  have hw : IntKind.i64.wrap ((n : Int) - 0) = n := by rw [wrap64 (by omega) (by omega)]; omega
  have hgt : decide ((n : Int) > 0) = true := by simpa using h0
  simp -implicitDefEqProofs only [ev, ↓reduceIte, Nat.reduceAdd, Nat.reduceEqDiff, Nat.reduceLeDiff, reduceCtorEq, Hp.nil, hlt, hw0, hw, hgt]
  refine ⟨⟨by omega, by omega, by omega⟩, ⟨by omega, by omega, by omega⟩, fin_new rfl Nat.zero_lt_one ?_ ⟨rfl, rfl⟩⟩
  intro row hr x hx
  obtain ⟨_, rfl⟩ := List.mem_replicate.1 hr
  simp only [List.mem_cons, List.not_mem_nil, or_false] at hx
  rcases hx with rfl | rfl <;> exact .iv _

def catAt (a b : Cls) : Nat → Cls
  | 0 => []
  | 1 => a
  | _ => a ++ b

theorem catAt_0 (a b : Cls) : catAt a b 0 = [] := rfl
theorem catAt_1 (a b : Cls) : catAt a b 1 = a := rfl
theorem catAt_2 (a b : Cls) : catAt a b 2 = a ++ b := rfl
theorem acall_grow {n : Nat} (h0 : 0 < n) (hn : n ≤ 1000000000) {hp : Hp} {K : LV → Hp → Prop} {Kp : Value → Hp → Prop} (hk : K (.one (.own hp.nxt 0 0 0)) ⟨(hp.nxt, .cells 2 0 (List.replicate n [sct (.int .i32 0), sct (.int .i32 0)]) false) :: hp.bs, hp.nxt + 1⟩) :
    acall prog 139 [.one (.iv (.sc (.slice none 0 0))), .one (sct (.int .i64 n))] hp K Kp := by
  have hlow : ∀ x ∈ [LV.one (.iv (.sc (.slice none 0 0))), .one (sct (.int .i64 n))], LLow 0 x := by simp
  refine ⟨[], [], [], Hp.nil, [.one (.iv (.sc (.slice none 0 0))), .one (sct (.int .i64 n))], _, f139_ok n h0 hn, by simp, sub_nil _, closed_nil, hlow, ?_, ?_⟩
  · rw [lrens_low (n := 0) (by simp) hlow]; exact CvLVs.refl _
  · rintro ae' H' ⟨rfl, rfl⟩
    simpa [Hp.prep_nil, Hp.back, Bs.ren, Blk.ren, LV.ren, AV.ren, ridx, Bs.without_nil, rens, sct] using hk

theorem f127_ok (a b : Cls) (ha : 0 < a.length) (hb : a.length + b.length ≤ 100000) : RetNew prog 127 [.one (.iv (.sl 1 [[clsIV a], [clsIV b]]))] 2 (rowsOf Rg.cells (a ++ b)) := by
  refine ⟨calls_of_rsv r127_ok (by simp [r127]) ?_, by simp, rowsOf_low _ _⟩
  simp only [oo, on, og, om, ol, oh, zN, ci, r127, initTm, Nat.reduceAdd, clsIV]
  simp -implicitDefEqProofs only [ev, ↓reduceIte, Nat.reduceAdd, Nat.reduceEqDiff, Nat.reduceLeDiff, reduceCtorEq, Hp.nil, awp_loop]
  refine aloop_mk (σ := Nat) (fun q => [(0, .one (.iv (.sl 1 [[clsIV a], [clsIV b]]))), (9, .one (.iv (.sl 1 [[clsIV a], [clsIV b]]))), (10, .one (sct (.int .i64 2))), (11, .one (sct (.int .i64 q))), (3, .one (sct (.int .i64 (catAt a b q).length)))])
    (fun q => Hp.nil) (fun q => q ≤ 2) (fun q => 2 - q) 0 (by simp) (wk_none ?_) ?_
  · simp only [wk, ↓reduceIte, Nat.reduceEqDiff, reduceCtorEq, Nat.reduceLT, clsIV]
    simp [catAt]
  · intro i hi
    simp only [oo, on, og, om, ol, oh, zN, ci, r127_l0, clsIV, Hp.nil]
    have hnil : ((List.length ([] : Cls) : Nat) : Int) = 0 := rfl
    have h00 : ((0 : Nat) : Int) = 0 := rfl
    have h11 : ((1 : Nat) : Int) = 1 := rfl
    have hw1 : IntKind.i64.wrap ((0 : Int) + 1) = 1 := rfl
    have hw2 : IntKind.i64.wrap ((1 : Int) + 1) = 2 := rfl
    have d0 : decide ((0 : Int) < 2) = true := rfl
    have d1 : decide ((1 : Int) < 2) = true := rfl
    have t0 : (0 : Int) ≤ 0 := Int.le_refl _
    have t1 : (0 : Int) ≤ 1 := by decide
    match i, hi with
    | 0, _ =>
      have h02 : decide (((0 : Nat) : Int) < 2) = true := rfl
      have hnn : decide ((a.length : Int) < 0) = false := by simp
      have hw : IntKind.i64.wrap ((0 : Int) + (a.length : Int)) = a.length := by rw [wrap64 (by omega) (by omega)]; simp
      simp -implicitDefEqProofs only [ev, ↓reduceIte, Nat.reduceAdd, Nat.reduceEqDiff, Nat.reduceLeDiff, reduceCtorEq, h00, d0, t0, hw1, catAt_0, hnil]
      refine .mk fun h1 => ?_
      simp -implicitDefEqProofs only [ev, ↓reduceIte, Nat.reduceAdd, Nat.reduceEqDiff, Nat.reduceLeDiff, reduceCtorEq, hw, hnn, h00, hw1]
      refine ⟨1, by omega, by omega, wk_none ?_⟩
      simp only [wk, ↓reduceIte, Nat.reduceEqDiff, reduceCtorEq, Nat.reduceLT, catAt_1]
      simp
    | 1, _ =>
      have h02 : decide (((1 : Nat) : Int) < 2) = true := rfl
      have hnn : decide (((a.length + b.length : Nat) : Int) < 0) = false := by rw [decide_eq_false_iff_not]; omega
      have hw : IntKind.i64.wrap ((a.length : Int) + (b.length : Int)) = ((a.length + b.length : Nat) : Int) := by rw [wrap64 (by omega) (by omega)]; simp
      simp -implicitDefEqProofs only [ev, ↓reduceIte, Nat.reduceAdd, Nat.reduceEqDiff, Nat.reduceLeDiff, reduceCtorEq, h11, d1, t1, hw2, catAt_1]
      refine .mk fun h1 => ?_
      simp -implicitDefEqProofs only [ev, ↓reduceIte, Nat.reduceAdd, Nat.reduceEqDiff, Nat.reduceLeDiff, reduceCtorEq, hw, hnn, h11, hw2]
      refine ⟨2, by omega, by omega, wk_none ?_⟩
      simp only [wk, ↓reduceIte, Nat.reduceEqDiff, reduceCtorEq, Nat.reduceLT, catAt_2]
      simp
    | 2, _ =>
      have h22 : decide (((2 : Nat) : Int) < 2) = false := rfl
      simp -implicitDefEqProofs only [ev, ↓reduceIte, Nat.reduceAdd, Nat.reduceEqDiff, Nat.reduceLeDiff, reduceCtorEq, h22, catAt_2]
      refine acall_grow (n := (a ++ b).length) (by simp; omega) (by simp; omega) ?_
      simp -implicitDefEqProofs only [ev, ↓reduceIte, Nat.reduceAdd, Nat.reduceEqDiff, Nat.reduceLeDiff, reduceCtorEq, awp_loop]
      refine aloop_mk (σ := Nat × Nat × List (List AV)) (fun q => [(25, .one (.iv (.sl 1 [[clsIV a], [clsIV b]]))), (26, .one (sct (.int .i64 2))), (27, .one (sct (.int .i64 q.1))), (6, .one (.own 0 q.2.1 0 (catAt a b q.1).length))])
        (fun q => ⟨[(0, .cells 2 q.2.1 q.2.2 false)], 1⟩) (fun q => q.1 ≤ 2 ∧ (0 < q.1 → q.2.2 = rowsOf Rg.cells (catAt a b q.1)) ∧ ∀ row ∈ q.2.2, ∀ x ∈ row, Low 0 x) (fun q => 2 - q.1) (0, 0, List.replicate (a ++ b).length [sct (.int .i32 0), sct (.int .i32 0)]) ⟨by simp, by simp, ?_⟩ (wk_keep' (by simp) (by simp) ?_ ?_ ?_) ?_
      · intro row hr x hx
        obtain ⟨_, rfl⟩ := List.mem_replicate.1 hr
        simp only [List.mem_cons, List.not_mem_nil, or_false] at hx
        rcases hx with rfl | rfl <;> exact .iv _
      · exact ⟨⟨Nat.zero_lt_one, rfl⟩, trivial⟩
      · refine ⟨?_, trivial⟩
        intro row hr x hx
        obtain ⟨_, rfl⟩ := List.mem_replicate.1 hr
        simp only [List.mem_cons, List.not_mem_nil, or_false] at hx
        rcases hx with rfl | rfl <;> exact .iv _
      · simp only [wk, ↓reduceIte, Nat.reduceEqDiff, reduceCtorEq, Nat.reduceLT, clsIV, catAt_0]
        simp
      · rintro ⟨i, ver, rows⟩ ⟨hi, hrows, hlow⟩
        simp only at hi hrows hlow
        simp only [oo, on, og, om, ol, oh, zN, ci, r127_l1, clsIV]
        match i, hi with
        | 0, _ =>
          simp -implicitDefEqProofs only [ev, ↓reduceIte, Nat.reduceAdd, Nat.reduceEqDiff, Nat.reduceLeDiff, reduceCtorEq, h00, d0, t0, hw1, catAt_0, List.length_nil]
          refine ⟨⟨by omega, by omega⟩, (1, ver + 1, rowsOf Rg.cells a), ⟨by simp, fun _ => rfl, rowsOf_low _ _⟩, by simp, wk_keep' (by simp) (by simp) ?_ ?_ ?_⟩
          · simp [BsEq, Bs.get, rowsOf]
          · exact ⟨rowsOf_low _ _, trivial⟩
          · simp only [wk, ↓reduceIte, Nat.reduceEqDiff, reduceCtorEq, Nat.reduceLT, catAt_1]
            simp
        | 1, _ =>
          have hr := hrows Nat.zero_lt_one
          simp -implicitDefEqProofs only [ev, ↓reduceIte, Nat.reduceAdd, Nat.reduceEqDiff, Nat.reduceLeDiff, reduceCtorEq, h11, d1, t1, hw2, catAt_1]
          refine ⟨⟨by omega, by omega⟩, (2, ver + 1, rowsOf Rg.cells (a ++ b)), ⟨by simp, fun _ => rfl, rowsOf_low _ _⟩, by simp, wk_keep' (by simp) (by simp) ?_ ?_ ?_⟩
          · rw [hr, catAt_1, List.take_of_length_le (by rw [rowsOf_length]; exact Nat.le_refl _)]
            simp [BsEq, Bs.get, rowsOf]
          · exact ⟨rowsOf_low _ _, trivial⟩
          · simp only [wk, ↓reduceIte, Nat.reduceEqDiff, reduceCtorEq, Nat.reduceLT, catAt_2]
            simp
        | 2, _ =>
          have hr := hrows Nat.zero_lt_two
          rw [catAt_2] at hr
          subst hr
          simp -implicitDefEqProofs only [ev, ↓reduceIte, Nat.reduceAdd, Nat.reduceEqDiff, Nat.reduceLeDiff, reduceCtorEq, h22, catAt_2]
          rw [← rowsOf_length Rg.cells (a ++ b)]
          exact fin_new rfl Nat.zero_lt_one (rowsOf_low _ _) ⟨ver, rfl, rfl⟩

def unionL (a b : Cls) : Cls := ofL (a ++ b)
theorem f106_ok (hO : OfC) (a b : Cls) (ha : 0 < a.length) (hb : a.length + b.length ≤ 100000) : Ret prog 106 [.one (.iv (clsIV a)), .one (.iv (clsIV b))] (.one (.iv (clsIV (unionL a b)))) := by
  have h127 := f127_ok a b ha hb
  refine .of r106_ok (by simp) (.one (by simp)) (by simp [r106]) ?_
  simp only [oo, on, og, om, ol, oh, zN, ci, r106, initTm, Nat.reduceAdd]
  simp -implicitDefEqProofs only [ev, ↓reduceIte, Nat.reduceAdd, Nat.reduceEqDiff, Nat.reduceLeDiff, reduceCtorEq, Hp.nil]
  refine acall_new [] h127 (.cons (.refl _) .nil) ?_
  intro ver
  simp only [Hp.prep_nil]
  simp -implicitDefEqProofs only [ev, ↓reduceIte, Nat.reduceAdd, Nat.reduceEqDiff, Nat.reduceLeDiff, reduceCtorEq]
  obtain ⟨r1, l', hgl⟩ : ∃ r l, a ++ b = r :: l := by
    cases a with
    | nil => simp at ha
    | cons x y => exact ⟨_, _, rfl⟩
  have hln : l'.length + 1 = a.length + b.length := by rw [← List.length_append, hgl]; rfl
  refine acall_ret_fz [0] (hO r1 l' (by omega)) (.cons (.one (cv_own (rows := rowsOf Rg.cells (a ++ b)) (rs := (r1 :: l').map Rg.cells) (f := false) rfl (by simp) ?_)) .nil) ?_
  · rw [hgl]; simp [rowsOf, List.take_of_length_le]
  · simp -implicitDefEqProofs only [ev, ↓reduceIte, Nat.reduceAdd, Nat.reduceEqDiff, Nat.reduceLeDiff, reduceCtorEq]
    exact fin_same (.one (by simp)) ⟨by rw [unionL, hgl], rfl⟩

def dotL : Cls := notL (ofL [⟨10, 10⟩])
theorem ofL_one {n : Int} (h0 : 0 ≤ n) (h1 : n ≤ 1114111) : ofL [⟨n, n⟩] = [⟨n, n⟩] := by
  have hm : (⟨n, n⟩ : Rg).may = true := by simp [may_iff]; omega
  simp [ofL, hm, sortLo, insLo, mergeStep]
theorem f53_ok (hO : OfC) : Ret prog 53 [] (.one (.iv (clsIV dotL))) := by
  have h1 : ofL [⟨10, 10⟩] = [⟨10, 10⟩] := ofL_one (by omega) (by omega)
  refine .of r53_ok (by simp) (.one (by simp)) (by simp [r53]) ?_
  simp only [oo, on, og, om, ol, oh, zN, ci, r53, initTm, Nat.reduceAdd]
  simp -implicitDefEqProofs only [ev, ↓reduceIte, Nat.reduceAdd, Nat.reduceEqDiff, Nat.reduceLeDiff, reduceCtorEq, Hp.nil]
  refine acall_ret (f73_ok 10 10) ?_
  simp -implicitDefEqProofs only [ev, ↓reduceIte, Nat.reduceAdd, Nat.reduceEqDiff, Nat.reduceLeDiff, reduceCtorEq]
  refine acall_ret (lv := .one (.iv (clsIV (ofL [⟨10, 10⟩])))) (hO ⟨10, 10⟩ [] (by simp)) ?_
  simp -implicitDefEqProofs only [ev, ↓reduceIte, Nat.reduceAdd, Nat.reduceEqDiff, Nat.reduceLeDiff, reduceCtorEq]
  rw [h1]
  refine acall_ret (f46_ok hO ⟨10, 10⟩ [] (by simp)) ?_
  simp -implicitDefEqProofs only [ev, ↓reduceIte, Nat.reduceAdd, Nat.reduceEqDiff, Nat.reduceLeDiff, reduceCtorEq]
  exact fin_same (.one (by simp)) ⟨by rw [dotL, h1], rfl⟩
end Go.Av

namespace Go.Av
open Go.RowKit Go.Proofs.Tryz

/-! ### methods of the parser -/
abbrev PR (α : Type) := Except (Int × Int) (α × List Ch × Int)

def MRet {α : Type} (enc : α → LV) (n : Int) (r : PR α) (ae : AE) (row' : List AV) : Prop := match r with
  | .ok (x, cs', g') => ae = .ret (enc x) ∧ row' = prow cs' n g'
  | .error (c, a) => ae = .pan (errAt c a)

theorem acall_mret {f : FuncId} {cs : List Ch} {n g : Int} {rest : List LV} {α : Type} {enc : α → LV} {r : PR α} {hp : Hp} {K : LV → Hp → Prop} {Kp : Value → Hp → Prop} {b : Nat} (h : Meth prog f (prow cs n g) rest (MRet enc n r))
    (hb : b < hp.nxt) (hg : hp.bs.get b = some (.cells 3 0 [prow cs n g] false))
    (hk : ∀ x cs' g', r = .ok (x, cs', g') → K (enc x) ⟨(b, .cells 3 0 [prow cs' n g'] false) :: Bs.without [b] hp.bs, hp.nxt + 1⟩)
    (hkp : ∀ c a, r = .error (c, a) → Kp (errAt c a) ⟨Bs.without [b] hp.bs, hp.nxt + 1⟩) : acall prog f (.one (.ptr b 0 0 0) :: rest) hp K Kp := by
  refine acall_meth h hb hg ?_ ?_
  · intro lv row' _ hq _
    cases r with
    | ok p =>
      obtain ⟨x, cs', g'⟩ := p
      simp only [MRet, AE.ret.injEq] at hq
      obtain ⟨rfl, rfl⟩ := hq
      exact hk x cs' g' rfl
    | error p =>
      obtain ⟨c, a⟩ := p
      simp [MRet] at hq
  · intro v hq
    cases r with
    | ok p =>
      obtain ⟨x, cs', g'⟩ := p
      simp [MRet] at hq
    | error p =>
      obtain ⟨c, a⟩ := p
      simp only [MRet, AE.pan.injEq] at hq
      subst hq
      exact hkp c a rfl

/-- So, of the functions that are told of by an equation. -/
theorem acall_meq {f : FuncId} {cs cs' : List Ch} {n g g' : Int} {rest : List LV} {lv : LV} {hp : Hp} {K : LV → Hp → Prop} {Kp : Value → Hp → Prop} {b : Nat} (h : Meth prog f (prow cs n g) rest (fun ae row' => ae = .ret lv ∧ row' = prow cs' n g'))
    (hb : b < hp.nxt) (hg : hp.bs.get b = some (.cells 3 0 [prow cs n g] false))
    (hk : K lv ⟨(b, .cells 3 0 [prow cs' n g'] false) :: Bs.without [b] hp.bs, hp.nxt + 1⟩) : acall prog f (.one (.ptr b 0 0 0) :: rest) hp K Kp := by
  refine acall_meth h hb hg ?_ (fun v h => by cases h.1)
  rintro lv' row' _ ⟨e, rfl⟩ _
  simp only [AE.ret.injEq] at e
  subst e
  exact hk

theorem acall_must (ok : Bool) (n : Int) {hp : Hp} {K : LV → Hp → Prop} {Kp : Value → Hp → Prop} (hk : ok = true → K (.tup []) hp) (hkp : ok = false → Kp (errAt 2 n) hp) :
    acall prog 30 [.one (.iv (.sc (.bool ok))), .one (.iv (.sc (.int .i64 n)))] hp K Kp := by
  refine acall_retp [] (f30_ok ok n) (CvLVs.refl _) ?_
  cases ok with
  | true => simp only [if_true, Hp.prep_nil]; exact hk rfl
  | false => simp only [Bool.false_eq_true, if_false, Hp.prep_nil]; exact hkp rfl

def eatB (s : ByteArray) (cs : List Ch) : Bool := (eatOf (codes s) cs).isSome
def eatR (s : ByteArray) (cs : List Ch) : List Ch := (eatOf (codes s) cs).getD cs
theorem f49_eq (s : ByteArray) (hs : Ascii s) (cs : List Ch) (n g : Int) : Meth prog 49 (prow cs n g) [.one (sct (.string s))] (fun ae row' => ae = .ret (.one (sct (.bool (eatB s cs)))) ∧ row' = prow (eatR s cs) n g) := by
  have h := f49_ok s hs cs n g
  have e : eatQ s cs n g = (fun ae row' => ae = .ret (.one (sct (.bool (eatB s cs)))) ∧ row' = prow (eatR s cs) n g) := by
    funext ae row'
    simp only [eatQ, eatB, eatR]
    cases eatOf (codes s) cs <;> rfl
  rw [e] at h
  exact h

theorem LLowR.mono {n m : Nat} (h : n ≤ m) {x : LV} (hl : LLowR n x) : LLowR m x := by
  cases hl with
  | lv x hx => exact .lv _ (hx.mono h)
  | tup l hx => exact .tup _ fun x hc => (hx x hc).mono h
theorem CvR.self {n : Nat} {H : Hp} {x : LV} (hl : LLowR n x) : CvR H x x := by
  cases hl with
  | lv _ _ => exact .lv (.refl _)
  | tup _ _ => exact .tup (CvLVs.refl _)
theorem fin_mcv {n : Int} {α : Type} {enc : α → LV} {r : PR α} {x : α} {cs' : List Ch} {g' : Int} {lv : LV} {hp : Hp} (fz : List Nat) (h0 : 0 ∉ fz) (hr : r = .ok (x, cs', g')) (hn : 0 < hp.nxt) (hg : hp.bs.get 0 = some (.cells 3 0 [prow cs' n g'] false)) (hl : LLowR 0 (enc x)) (hc : CvR (hp.prep fz []) lv (enc x)) :
    Fin 1 (MQ 3 (MRet enc n r)) lv hp := by
  have hrow : ∀ z ∈ prow cs' n g', Low 0 z := by simp [prow]
  have hnx : (hp.prep fz []).nxt = hp.nxt := rfl
  have hri : ridx [0] (hp.prep fz []).nxt 0 = 0 := by simp [ridx]
  refine ⟨fz, [], [0], enc x, heap1 (prow cs' n g'), by simp, ?_, closed_heap1 hrow, zero_idx, ?_, ?_, ⟨hl, prow cs' n g', rfl, hrow, rfl, by rw [hr]; exact ⟨rfl, rfl⟩⟩⟩
  · refine ⟨by simp, by simpa [hnx] using hn, rfl, fun c y hx hc => ?_, fun c y hx => ?_⟩
    · simp only [heap1, Bs.get] at hx
      split at hx
      · rename_i e
        subst e
        simp only [Option.some.injEq] at hx
        subst hx
        refine ⟨.cells 3 0 [prow cs' n g'] false, ?_, ?_⟩
        · rw [hri]
          simp only [Hp.prep, Hp.ghost, Hp.freeze, Bs.get_freeze, hg, Option.map_some]
          simp [h0]
        · have e : rens (ridx [0] (hp.prep fz []).nxt) (prow cs' n g') = prow cs' n g' := rens_low (n := 0) (fun i hi => by omega) hrow
          simp only [Blk.ren, List.map_cons, List.map_nil, e]
          exact .refl _
      · cases hx
    · simp only [heap1, Bs.get] at hx
      split at hx
      · rename_i e; subst e; simp [heap1]
      · cases hx
  · exact hl.mono (Nat.zero_le _)
  · rw [LV.ren_lowR (n := 0) (fun i hi => by omega) hl]
    exact hc

theorem fin_mret {n : Int} {α : Type} {enc : α → LV} {r : PR α} {x : α} {cs' : List Ch} {g' : Int} {hp : Hp} (hr : r = .ok (x, cs', g')) (hn : 0 < hp.nxt) (hg : hp.bs.get 0 = some (.cells 3 0 [prow cs' n g'] false)) (hl : LLowR 0 (enc x)) :
    Fin 1 (MQ 3 (MRet enc n r)) (enc x) hp :=
  fin_mcv [] (by simp) hr hn hg hl (.self hl)

theorem finp_mret {n : Int} {α : Type} {enc : α → LV} {r : PR α} {c a : Int} {hp : Hp} (hr : r = .error (c, a)) (hn : 0 < hp.nxt) : FinP 1 (MQ 3 (MRet enc n r)) (errAt c a) hp :=
  finp_meth hn (by rw [hr]; rfl)

/-! ### escapes and members of classes -/
def specB : ByteArray := { data := #[92, 46, 91, 93, 40, 41, 42, 43, 63, 123, 125, 124, 94, 36] }
def inClsB : ByteArray := { data := #[92, 93, 45, 94] }
def digB : ByteArray := { data := #[48, 49, 50, 51, 52, 53, 54, 55, 56, 57] }
theorem specB_ascii : Ascii specB := by unfold Ascii; decide
theorem inClsB_ascii : Ascii inClsB := by unfold Ascii; decide
theorem digB_ascii : Ascii digB := by unfold Ascii; decide

def escL (r : Int) : Cls :=
  if r == 110 then ofL [⟨10, 10⟩] else if r == 116 then ofL [⟨9, 9⟩] else if r == 100 then ofL [⟨48, 57⟩]
  else if r == 119 then ofL [⟨48, 57⟩, ⟨65, 90⟩, ⟨95, 95⟩, ⟨97, 122⟩] else if r == 115 then ofL [⟨9, 10⟩, ⟨13, 13⟩, ⟨32, 32⟩]
  else if r == 45 || isR r specB then ofL [⟨r, r⟩] else []

theorem f104_ok (hO : OfC) (r : Int) : Ret prog 104 [.one (sct (.int .i32 r))] (.one (.iv (clsIV (escL r)))) := by
  refine .of r104_ok (by simp) (.one (by simp)) (by simp [r104]) ?_
  simp only [oo, on, og, om, ol, oh, zN, ci, r104, initTm, Nat.reduceAdd]
  simp -implicitDefEqProofs only [ev, ↓reduceIte, Nat.reduceAdd, Nat.reduceEqDiff, Nat.reduceLeDiff, reduceCtorEq, Hp.nil]
  have fin : ∀ (hp : Hp) (l : Cls), escL r = ofL l → Fin 0 (fun ae hp => ae = AE.ret (LV.one (AV.iv (clsIV (escL r)))) ∧ hp = { bs := [], nxt := 0 }) (LV.one (AV.iv (clsIV (ofL l)))) hp := fun hp l e => fin_same (.one (by simp)) ⟨by rw [e], rfl⟩
  have hsp : isR r { data := #[92, 46, 91, 93, 40, 41, 42, 43, 63, 123, 125, 124, 94, 36] } = isR r specB := rfl
  refine .mk (fun h1 => ?_) (fun h1 => ?_)
  · simp -implicitDefEqProofs only [ev, ↓reduceIte, Nat.reduceAdd, Nat.reduceEqDiff, Nat.reduceLeDiff, reduceCtorEq]
    refine acall_ret (f73_ok 10 10) ?_
    simp -implicitDefEqProofs only [ev, ↓reduceIte, Nat.reduceAdd, Nat.reduceEqDiff, Nat.reduceLeDiff, reduceCtorEq]
    refine acall_ret (hO ⟨10, 10⟩ [] (by simp)) ?_
    simp -implicitDefEqProofs only [ev, ↓reduceIte, Nat.reduceAdd, Nat.reduceEqDiff, Nat.reduceLeDiff, reduceCtorEq]
    exact fin _ _ (by simp [escL, h1])
  · simp -implicitDefEqProofs only [ev, ↓reduceIte, Nat.reduceAdd, Nat.reduceEqDiff, Nat.reduceLeDiff, reduceCtorEq]
    refine .mk (fun h2 => ?_) (fun h2 => ?_)
    · simp -implicitDefEqProofs only [ev, ↓reduceIte, Nat.reduceAdd, Nat.reduceEqDiff, Nat.reduceLeDiff, reduceCtorEq]
      refine acall_ret (f73_ok 9 9) ?_
      simp -implicitDefEqProofs only [ev, ↓reduceIte, Nat.reduceAdd, Nat.reduceEqDiff, Nat.reduceLeDiff, reduceCtorEq]
      refine acall_ret (hO ⟨9, 9⟩ [] (by simp)) ?_
      simp -implicitDefEqProofs only [ev, ↓reduceIte, Nat.reduceAdd, Nat.reduceEqDiff, Nat.reduceLeDiff, reduceCtorEq]
      exact fin _ _ (by simp [escL, h1, h2])
    · simp -implicitDefEqProofs only [ev, ↓reduceIte, Nat.reduceAdd, Nat.reduceEqDiff, Nat.reduceLeDiff, reduceCtorEq]
      refine .mk (fun h3 => ?_) (fun h3 => ?_)
      · simp -implicitDefEqProofs only [ev, ↓reduceIte, Nat.reduceAdd, Nat.reduceEqDiff, Nat.reduceLeDiff, reduceCtorEq]
        refine acall_ret (f73_ok 48 57) ?_
        simp -implicitDefEqProofs only [ev, ↓reduceIte, Nat.reduceAdd, Nat.reduceEqDiff, Nat.reduceLeDiff, reduceCtorEq]
        refine acall_ret (hO ⟨48, 57⟩ [] (by simp)) ?_
        simp -implicitDefEqProofs only [ev, ↓reduceIte, Nat.reduceAdd, Nat.reduceEqDiff, Nat.reduceLeDiff, reduceCtorEq]
        exact fin _ _ (by simp [escL, h1, h2, h3])
      · simp -implicitDefEqProofs only [ev, ↓reduceIte, Nat.reduceAdd, Nat.reduceEqDiff, Nat.reduceLeDiff, reduceCtorEq]
        refine .mk (fun h4 => ?_) (fun h4 => ?_)
        · simp -implicitDefEqProofs only [ev, ↓reduceIte, Nat.reduceAdd, Nat.reduceEqDiff, Nat.reduceLeDiff, reduceCtorEq]
          refine acall_ret (f73_ok 48 57) ?_
          simp -implicitDefEqProofs only [ev, ↓reduceIte, Nat.reduceAdd, Nat.reduceEqDiff, Nat.reduceLeDiff, reduceCtorEq]
          refine acall_ret (f73_ok 65 90) ?_
          simp -implicitDefEqProofs only [ev, ↓reduceIte, Nat.reduceAdd, Nat.reduceEqDiff, Nat.reduceLeDiff, reduceCtorEq]
          refine acall_ret (f73_ok 95 95) ?_
          simp -implicitDefEqProofs only [ev, ↓reduceIte, Nat.reduceAdd, Nat.reduceEqDiff, Nat.reduceLeDiff, reduceCtorEq]
          refine acall_ret (f73_ok 97 122) ?_
          simp -implicitDefEqProofs only [ev, ↓reduceIte, Nat.reduceAdd, Nat.reduceEqDiff, Nat.reduceLeDiff, reduceCtorEq]
          refine acall_ret (hO ⟨48, 57⟩ [⟨65, 90⟩, ⟨95, 95⟩, ⟨97, 122⟩] (by simp)) ?_
          simp -implicitDefEqProofs only [ev, ↓reduceIte, Nat.reduceAdd, Nat.reduceEqDiff, Nat.reduceLeDiff, reduceCtorEq]
          exact fin _ _ (by simp [escL, h1, h2, h3, h4])
        · simp -implicitDefEqProofs only [ev, ↓reduceIte, Nat.reduceAdd, Nat.reduceEqDiff, Nat.reduceLeDiff, reduceCtorEq]
          refine .mk (fun h5 => ?_) (fun h5 => ?_)
          · simp -implicitDefEqProofs only [ev, ↓reduceIte, Nat.reduceAdd, Nat.reduceEqDiff, Nat.reduceLeDiff, reduceCtorEq]
            refine acall_ret (f73_ok 9 10) ?_
            simp -implicitDefEqProofs only [ev, ↓reduceIte, Nat.reduceAdd, Nat.reduceEqDiff, Nat.reduceLeDiff, reduceCtorEq]
            refine acall_ret (f73_ok 13 13) ?_
            simp -implicitDefEqProofs only [ev, ↓reduceIte, Nat.reduceAdd, Nat.reduceEqDiff, Nat.reduceLeDiff, reduceCtorEq]
            refine acall_ret (f73_ok 32 32) ?_
            simp -implicitDefEqProofs only [ev, ↓reduceIte, Nat.reduceAdd, Nat.reduceEqDiff, Nat.reduceLeDiff, reduceCtorEq]
            refine acall_ret (hO ⟨9, 10⟩ [⟨13, 13⟩, ⟨32, 32⟩] (by simp)) ?_
            simp -implicitDefEqProofs only [ev, ↓reduceIte, Nat.reduceAdd, Nat.reduceEqDiff, Nat.reduceLeDiff, reduceCtorEq]
            exact fin _ _ (by simp [escL, h1, h2, h3, h4, h5])
          · simp -implicitDefEqProofs only [ev, ↓reduceIte, Nat.reduceAdd, Nat.reduceEqDiff, Nat.reduceLeDiff, reduceCtorEq]
            refine .mk (fun h6 => ?_) (fun h6 => ?_)
            · simp -implicitDefEqProofs only [ev, ↓reduceIte, Nat.reduceAdd, Nat.reduceEqDiff, Nat.reduceLeDiff, reduceCtorEq, h6]
              refine acall_ret (f73_ok r r) ?_
              simp -implicitDefEqProofs only [ev, ↓reduceIte, Nat.reduceAdd, Nat.reduceEqDiff, Nat.reduceLeDiff, reduceCtorEq]
              refine acall_ret (hO ⟨r, r⟩ [] (by simp)) ?_
              simp -implicitDefEqProofs only [ev, ↓reduceIte, Nat.reduceAdd, Nat.reduceEqDiff, Nat.reduceLeDiff, reduceCtorEq]
              exact fin _ _ (by simp [escL, h1, h2, h3, h4, h5, h6])
            · simp -implicitDefEqProofs only [ev, ↓reduceIte, Nat.reduceAdd, Nat.reduceEqDiff, Nat.reduceLeDiff, reduceCtorEq, h6]
              refine acall_ret (f74_ok specB specB_ascii r) ?_
              simp -implicitDefEqProofs only [ev, ↓reduceIte, Nat.reduceAdd, Nat.reduceEqDiff, Nat.reduceLeDiff, reduceCtorEq]
              refine .mk (fun h7 => ?_) (fun h7 => ?_)
              · simp -implicitDefEqProofs only [ev, ↓reduceIte, Nat.reduceAdd, Nat.reduceEqDiff, Nat.reduceLeDiff, reduceCtorEq, h7]
                refine acall_ret (f73_ok r r) ?_
                simp -implicitDefEqProofs only [ev, ↓reduceIte, Nat.reduceAdd, Nat.reduceEqDiff, Nat.reduceLeDiff, reduceCtorEq]
                refine acall_ret (hO ⟨r, r⟩ [] (by simp)) ?_
                simp -implicitDefEqProofs only [ev, ↓reduceIte, Nat.reduceAdd, Nat.reduceEqDiff, Nat.reduceLeDiff, reduceCtorEq]
                exact fin _ _ (by simp [escL, h1, h2, h3, h4, h5, h6, h7])
              · simp -implicitDefEqProofs only [ev, ↓reduceIte, Nat.reduceAdd, Nat.reduceEqDiff, Nat.reduceLeDiff, reduceCtorEq, h7]
                refine fin_nil (sz := 2) ⟨?_, rfl⟩
                have : escL r = [] := by simp [escL, h1, h2, h3, h4, h5, h6, h7]
                rw [this]; rfl

def memberF (cs : List Ch) (from_ g : Int) : PR Cls :=
  if peekOf cs == 92 then
    if 0 < (escL (peekOf (cs.drop 1))).length then .ok (escL (peekOf (cs.drop 1)), (cs.drop 1).drop 1, g) else .error (2, from_)
  else if decide (peekOf cs ≥ 0) && !isR (peekOf cs) inClsB then .ok (ofL [⟨peekOf cs, peekOf cs⟩], cs.drop 1, g) else .error (2, from_)

def encC (c : Cls) : LV := .one (.iv (clsIV c))

theorem f125_ok (hO : OfC) (cs : List Ch) (n g from_ : Int) : Meth prog 125 (prow cs n g) [.one (sct (.int .i64 from_))] (MRet encC n (memberF cs from_ g)) := by
  refine .of r125_ok (by simp) (by simp [prow]) (by simp [prow]) (by simp [r125]) ?_
  simp only [oo, on, og, om, ol, oh, zN, ci, r125, initTm, Nat.reduceAdd, heap1]
  simp -implicitDefEqProofs only [ev, ↓reduceIte, Nat.reduceAdd, Nat.reduceEqDiff, Nat.reduceLeDiff, reduceCtorEq]
  refine acall_meq (f90_ok cs n g) Nat.zero_lt_one rfl ?_
  simp only [Bs.without, List.contains, List.elem, beq_self_eq_true, if_true]
  simp -implicitDefEqProofs only [ev, ↓reduceIte, Nat.reduceAdd, Nat.reduceEqDiff, Nat.reduceLeDiff, reduceCtorEq]
  refine .mk (fun h1 => ?_) (fun h1 => ?_)
  · simp -implicitDefEqProofs only [ev, ↓reduceIte, Nat.reduceAdd, Nat.reduceEqDiff, Nat.reduceLeDiff, reduceCtorEq]
    refine acall_meq (f90_ok (cs.drop 1) n g) Nat.zero_lt_two rfl ?_
    simp only [Bs.without, List.contains, List.elem, beq_self_eq_true, if_true]
    simp -implicitDefEqProofs only [ev, ↓reduceIte, Nat.reduceAdd, Nat.reduceEqDiff, Nat.reduceLeDiff, reduceCtorEq]
    refine acall_ret (f104_ok hO _) ?_
    simp only [clsIV]
    simp -implicitDefEqProofs only [ev, ↓reduceIte, Nat.reduceAdd, Nat.reduceEqDiff, Nat.reduceLeDiff, reduceCtorEq]
    refine .mk fun h2 => ?_
    simp -implicitDefEqProofs only [ev, ↓reduceIte, Nat.reduceAdd, Nat.reduceEqDiff, Nat.reduceLeDiff, reduceCtorEq]
    refine acall_must _ _ (fun h3 => ?_) (fun h3 => ?_)
    · simp -implicitDefEqProofs only [ev, ↓reduceIte, Nat.reduceAdd, Nat.reduceEqDiff, Nat.reduceLeDiff, reduceCtorEq]
      have h3' : 0 < (escL (peekOf (cs.drop 1))).length := by simpa using h3
      refine fin_mret (enc := encC) (x := escL (peekOf (cs.drop 1))) (cs' := (cs.drop 1).drop 1) (g' := g) ?_ (by simp) rfl (.one (by simp))
      rw [memberF, if_pos h1, if_pos h3']
    · simp -implicitDefEqProofs only [ev, ↓reduceIte, Nat.reduceAdd, Nat.reduceEqDiff, Nat.reduceLeDiff, reduceCtorEq]
      have h3' : ¬ 0 < (escL (peekOf (cs.drop 1))).length := by simpa using h3
      refine finp_mret ?_ (by simp)
      rw [memberF, if_pos h1, if_neg h3']
  · have h1' : ¬ (peekOf cs == 92) = true := by rw [h1]; simp
    simp -implicitDefEqProofs only [ev, ↓reduceIte, Nat.reduceAdd, Nat.reduceEqDiff, Nat.reduceLeDiff, reduceCtorEq]
    refine .mk (fun h2 => ?_) (fun h2 => ?_)
    · simp -implicitDefEqProofs only [ev, ↓reduceIte, Nat.reduceAdd, Nat.reduceEqDiff, Nat.reduceLeDiff, reduceCtorEq, h2]
      refine acall_ret (f74_ok inClsB inClsB_ascii _) ?_
      simp -implicitDefEqProofs only [ev, ↓reduceIte, Nat.reduceAdd, Nat.reduceEqDiff, Nat.reduceLeDiff, reduceCtorEq]
      refine acall_must _ _ (fun h3 => ?_) (fun h3 => ?_)
      · simp -implicitDefEqProofs only [ev, ↓reduceIte, Nat.reduceAdd, Nat.reduceEqDiff, Nat.reduceLeDiff, reduceCtorEq]
        refine acall_ret (f73_ok _ _) ?_
        simp -implicitDefEqProofs only [ev, ↓reduceIte, Nat.reduceAdd, Nat.reduceEqDiff, Nat.reduceLeDiff, reduceCtorEq]
        refine acall_ret (hO ⟨peekOf cs, peekOf cs⟩ [] (by simp)) ?_
        simp -implicitDefEqProofs only [ev, ↓reduceIte, Nat.reduceAdd, Nat.reduceEqDiff, Nat.reduceLeDiff, reduceCtorEq]
        refine fin_mret (enc := encC) (x := ofL [⟨peekOf cs, peekOf cs⟩]) (cs' := cs.drop 1) (g' := g) ?_ (by simp) rfl (.one (by simp))
        rw [memberF, if_neg h1', if_pos (by rw [h2, h3]; rfl)]
      · simp -implicitDefEqProofs only [ev, ↓reduceIte, Nat.reduceAdd, Nat.reduceEqDiff, Nat.reduceLeDiff, reduceCtorEq]
        refine finp_mret ?_ (by simp)
        rw [memberF, if_neg h1', if_neg (by rw [h2, h3]; simp)]
    · simp -implicitDefEqProofs only [ev, ↓reduceIte, Nat.reduceAdd, Nat.reduceEqDiff, Nat.reduceLeDiff, reduceCtorEq, h2]
      refine acall_must _ _ (fun h3 => by cases h3) (fun h3 => ?_)
      simp -implicitDefEqProofs only [ev, ↓reduceIte, Nat.reduceAdd, Nat.reduceEqDiff, Nat.reduceLeDiff, reduceCtorEq]
      refine finp_mret ?_ (by simp)
      rw [memberF, if_neg h1', if_neg (by rw [h2]; simp)]
end Go.Av

namespace Go.Av
open Go.RowKit Go.Proofs.Tryz

def Runes (cs : List Ch) : Prop := ∀ c ∈ cs, c.r ≤ 1114111
theorem Runes.suf {cs cs' : List Ch} (h : Runes cs) (hs : cs' <:+ cs) : Runes cs' := fun c hc => h c (hs.subset hc)
theorem Runes.peek {cs : List Ch} (h : Runes cs) : peekOf cs ≤ 1114111 := by
  cases cs with
  | nil => simp [peekOf]
  | cons c r => exact h c (by simp)

theorem eatOf_suf : ∀ (l : List Nat) (cs r : List Ch), eatOf l cs = some r → r <:+ cs ∧ r.length + l.length = cs.length
  | [], cs, r, h => by simp only [eatOf, Option.some.injEq] at h; subst h; exact ⟨List.suffix_refl _, by simp⟩
  | b :: l, [], r, h => by simp [eatOf] at h
  | b :: l, c :: cs, r, h => by
    simp only [eatOf] at h
    split at h
    · obtain ⟨h1, h2⟩ := eatOf_suf l cs r h
      exact ⟨h1.trans (List.suffix_cons _ _), by simp only [List.length_cons]; omega⟩
    · cases h
theorem eatR_suf (s : ByteArray) (cs : List Ch) : eatR s cs <:+ cs := by
  unfold eatR
  cases h : eatOf (codes s) cs with
  | none => exact List.suffix_refl _
  | some r => exact (eatOf_suf _ _ _ h).1
theorem codes_length (s : ByteArray) : (codes s).length = s.size := by simp [codes]
theorem eatR_lt {s : ByteArray} {cs : List Ch} (h : eatB s cs = true) : (eatR s cs).length + s.size = cs.length := by
  unfold eatB at h
  unfold eatR
  cases h' : eatOf (codes s) cs with
  | none => simp [h'] at h
  | some r => have := (eatOf_suf _ _ _ h').2; rw [codes_length] at this; exact this

theorem memberF_ok {cs cs' : List Ch} {f g g' : Int} {c : Cls} (hv : Runes cs) (h : memberF cs f g = .ok (c, cs', g')) : c ≠ [] ∧ c.length ≤ 4 ∧ cs' <:+ cs ∧ cs'.length < cs.length ∧ g' = g := by
  have hp : 0 ≤ peekOf cs → cs ≠ [] := by intro h1 e; subst e; simp [peekOf] at h1
  unfold memberF at h
  split at h
  · rename_i h1
    have h1 : peekOf cs = 92 := by simpa using h1
    have hne := hp (by omega)
    split at h
    · rename_i h2
      simp only [Except.ok.injEq, Prod.mk.injEq] at h
      obtain ⟨rfl, rfl, rfl⟩ := h
      refine ⟨by intro e; rw [e] at h2; simp at h2, ?_, (List.drop_suffix _ _).trans (List.drop_suffix _ _), ?_, rfl⟩
      · unfold escL
        repeat' split
        all_goals first | exact Nat.le_trans (ofL_length _) (by simp) | simp
      · cases cs with
        | nil => exact absurd rfl hne
        | cons a b => simp; omega
    · cases h
  · split at h
    · rename_i h2
      simp only [Bool.and_eq_true, decide_eq_true_eq] at h2
      have hne := hp h2.1
      simp only [Except.ok.injEq, Prod.mk.injEq] at h
      obtain ⟨rfl, rfl, rfl⟩ := h
      rw [ofL_one h2.1 hv.peek]
      refine ⟨by simp, by simp, List.drop_suffix _ _, ?_, rfl⟩
      cases cs with
      | nil => exact absurd rfl hne
      | cons a b => simp
    · cases h

theorem gcall_must (ok : Bool) (n : Int) {o : DOp} {hs : List (Nat × Hp)} {ps : List Pd} {i : Nat} {tm : Tm} {hp : Hp} {next : List (Nat × Hp) → List Pd → Nat → Tm → Hp → Prop} {Kp : Value → Hp → Prop}
    (ho : o.p = true) (hk : ok = true → ggK prog o hs ps i tm hp next (.tup []) hp) (hkp : ok = false → Kp (errAt 2 n) hp) :
    gcallK prog 30 o hs ps i tm hp next Kp [.one (.iv (.sc (.bool ok))), .one (.iv (.sc (.int .i64 n)))] := by
  cases ok with
  | true => exact .inl ⟨.tup [], hp, acall_must true n (fun _ => ⟨rfl, rfl⟩) (fun h => by cases h), fun _ => rfl, hk rfl⟩
  | false => exact .inr ⟨ho, acall_must false n (fun h => by cases h) (fun _ => hkp rfl)⟩

def headLo : Cls → Int
  | [] => 0
  | r :: _ => r.lo
def dashB : ByteArray := { data := #[45] }
theorem dashB_ascii : Ascii dashB := by unfold Ascii; decide

def itemOk (low high : Cls) : Bool := manyL low == 1 && (manyL high == 1 && decide (headLo low ≤ headLo high))
def itemF (cs : List Ch) (from_ g : Int) : PR Cls := match memberF cs from_ g with
  | .error e => .error e
  | .ok (low, cs1, g1) => if eatB dashB cs1 then match memberF (eatR dashB cs1) from_ g1 with
      | .error e => .error e
      | .ok (high, cs2, g2) => if itemOk low high then .ok (ofL [⟨headLo low, headLo high⟩], cs2, g2) else .error (2, from_)
    else .ok (low, cs1, g1)

theorem f105_ok (hO : OfC) (cs : List Ch) (hv : Runes cs) (n g from_ : Int) : Meth prog 105 (prow cs n g) [.one (sct (.int .i64 from_))] (MRet encC n (itemF cs from_ g)) := by
  refine .of r105_ok (by simp) (by simp [prow]) (by simp [prow]) (by simp [r105]) ?_
  simp only [oo, on, og, om, ol, oh, zN, ci, r105, initTm, Nat.reduceAdd, heap1]
  simp -implicitDefEqProofs only [ev, ↓reduceIte, Nat.reduceAdd, Nat.reduceEqDiff, Nat.reduceLeDiff, reduceCtorEq]
  refine acall_mret (f125_ok hO cs n g from_) Nat.zero_lt_one rfl (fun low cs1 g1 h1 => ?_) (fun c a h1 => ?_)
  · obtain ⟨hl0, hl4, hs1, _, rfl⟩ := memberF_ok hv h1
    simp only [Bs.without, List.contains, List.elem, beq_self_eq_true, if_true]
    simp only [encC]
    simp -implicitDefEqProofs only [ev, ↓reduceIte, Nat.reduceAdd, Nat.reduceEqDiff, Nat.reduceLeDiff, reduceCtorEq]
    refine acall_meq (f49_eq dashB dashB_ascii cs1 n g1) Nat.zero_lt_two rfl ?_
    simp only [Bs.without, List.contains, List.elem, beq_self_eq_true, if_true]
    simp -implicitDefEqProofs only [ev, ↓reduceIte, Nat.reduceAdd, Nat.reduceEqDiff, Nat.reduceLeDiff, reduceCtorEq]
    cases h2 : eatB dashB cs1 with
    | false =>
      simp -implicitDefEqProofs only [ev, ↓reduceIte, Nat.reduceAdd, Nat.reduceEqDiff, Nat.reduceLeDiff, reduceCtorEq, h2]
      refine fin_mret (enc := encC) (x := low) (cs' := eatR dashB cs1) (g' := g1) ?_ (by simp) rfl (.one (by simp))
      have : eatR dashB cs1 = cs1 := by
        unfold eatR; unfold eatB at h2
        cases h : eatOf (codes dashB) cs1 with
        | none => rfl
        | some r => simp [h] at h2
      simp [itemF, h1, h2, this]
    | true =>
      simp -implicitDefEqProofs only [ev, ↓reduceIte, Nat.reduceAdd, Nat.reduceEqDiff, Nat.reduceLeDiff, reduceCtorEq, h2]
      refine acall_mret (f125_ok hO (eatR dashB cs1) n g1 from_) (by simp) rfl (fun high cs2 g2 h3 => ?_) (fun c a h3 => ?_)
      · obtain ⟨hh0, hh4, hs2, _, rfl⟩ := memberF_ok (hv.suf ((eatR_suf _ _).trans hs1)) h3
        simp only [Bs.without, List.contains, List.elem, beq_self_eq_true, if_true]
        obtain ⟨⟨ll, lh⟩, lt, rfl⟩ : ∃ r l, low = r :: l := List.exists_cons_of_ne_nil hl0
        obtain ⟨⟨rl, rh⟩, rt, rfl⟩ : ∃ r l, high = r :: l := List.exists_cons_of_ne_nil hh0
        have hm1 := f126_ok hO ⟨ll, lh⟩ lt (by simp at hl4; omega)
        have hm2 := f126_ok hO ⟨rl, rh⟩ rt (by simp at hh4; omega)
        simp only [clsIV] at hm1 hm2
        simp only [encC, clsIV, List.map_cons, Rg.cells]
        cases hc1 : manyL (⟨ll, lh⟩ :: lt) == 1 with
        | false =>
          simp -implicitDefEqProofs only [ev, ↓reduceIte, Nat.reduceAdd, Nat.reduceEqDiff, Nat.reduceLeDiff, reduceCtorEq]
          refine gcall_ret hm1 ?_
          simp -implicitDefEqProofs only [ev, ↓reduceIte, Nat.reduceAdd, Nat.reduceEqDiff, Nat.reduceLeDiff, reduceCtorEq, hc1]
          refine gcall_must _ _ rfl (fun h => by cases h) (fun _ => ?_)
          simp -implicitDefEqProofs only [ev, ↓reduceIte, Nat.reduceAdd, Nat.reduceEqDiff, Nat.reduceLeDiff, reduceCtorEq]
          refine finp_mret ?_ (by simp)
          simp [itemF, h1, h2, h3, itemOk, hc1]
        | true =>
          simp -implicitDefEqProofs only [ev, ↓reduceIte, Nat.reduceAdd, Nat.reduceEqDiff, Nat.reduceLeDiff, reduceCtorEq]
          refine gcall_ret hm1 ?_
          simp -implicitDefEqProofs only [ev, ↓reduceIte, Nat.reduceAdd, Nat.reduceEqDiff, Nat.reduceLeDiff, reduceCtorEq, hc1]
          refine gcall_ret hm2 ?_
          cases hc2 : manyL (⟨rl, rh⟩ :: rt) == 1 with
          | false =>
            simp -implicitDefEqProofs only [ev, ↓reduceIte, Nat.reduceAdd, Nat.reduceEqDiff, Nat.reduceLeDiff, reduceCtorEq, hc2]
            refine gcall_must _ _ rfl (fun h => by cases h) (fun _ => ?_)
            simp -implicitDefEqProofs only [ev, ↓reduceIte, Nat.reduceAdd, Nat.reduceEqDiff, Nat.reduceLeDiff, reduceCtorEq]
            refine finp_mret ?_ (by simp)
            simp [itemF, h1, h2, h3, itemOk, hc2]
          | true =>
            simp -implicitDefEqProofs only [ev, ↓reduceIte, Nat.reduceAdd, Nat.reduceEqDiff, Nat.reduceLeDiff, reduceCtorEq, hc2]
            refine ⟨Int.le_refl _, Int.le_refl _, gcall_must _ _ rfl (fun h4 => ?_) (fun h4 => ?_)⟩
            · simp -implicitDefEqProofs only [ev, ↓reduceIte, Nat.reduceAdd, Nat.reduceEqDiff, Nat.reduceLeDiff, reduceCtorEq]
              refine ⟨Int.le_refl _, Int.le_refl _, ?_⟩
              refine dcall_ret (f73_ok ll rl) ?_
              simp -implicitDefEqProofs only [ev, ↓reduceIte, Nat.reduceAdd, Nat.reduceEqDiff, Nat.reduceLeDiff, reduceCtorEq]
              refine dcall_ret (lv := .one (.iv (clsIV (ofL [⟨ll, rl⟩])))) (hO ⟨ll, rl⟩ [] (by simp)) ?_
              simp -implicitDefEqProofs only [ev, ↓reduceIte, Nat.reduceAdd, Nat.reduceEqDiff, Nat.reduceLeDiff, reduceCtorEq]
              refine fin_mret (enc := encC) (x := ofL [⟨ll, rl⟩]) (cs' := cs2) (g' := g2) ?_ (by simp) rfl (.one (by simp))
              have h4' : ll ≤ rl := by simpa using h4
              simp [itemF, h1, h2, h3, itemOk, hc1, hc2, headLo, h4']
            · simp -implicitDefEqProofs only [ev, ↓reduceIte, Nat.reduceAdd, Nat.reduceEqDiff, Nat.reduceLeDiff, reduceCtorEq]
              refine finp_mret ?_ (by simp)
              have h4' : ¬ ll ≤ rl := by simpa using h4
              simp [itemF, h1, h2, h3, itemOk, hc1, hc2, headLo, h4']
      · simp only [Bs.without, List.contains, List.elem, beq_self_eq_true, if_true]
        simp -implicitDefEqProofs only [ev, ↓reduceIte, Nat.reduceAdd, Nat.reduceEqDiff, Nat.reduceLeDiff, reduceCtorEq]
        refine finp_mret ?_ (by simp)
        simp [itemF, h1, h2, h3]
  · simp only [Bs.without, List.contains, List.elem, beq_self_eq_true, if_true]
    simp -implicitDefEqProofs only [ev, ↓reduceIte, Nat.reduceAdd, Nat.reduceEqDiff, Nat.reduceLeDiff, reduceCtorEq]
    refine finp_mret ?_ (by simp)
    simp [itemF, h1]
end Go.Av

namespace Go.Av
open Go.RowKit Go.Proofs.Tryz

theorem mergeStep_ne (out : Cls) (r : Rg) : mergeStep out r ≠ [] := by
  unfold mergeStep
  split
  · split <;> simp
  · simp
theorem merge_ne : ∀ (l out : Cls), out ≠ [] → l.foldl mergeStep out ≠ []
  | [], out, h => h
  | r :: l, out, _ => by rw [List.foldl_cons]; exact merge_ne l _ (mergeStep_ne out r)
theorem ofL_ne {l : Cls} {r : Rg} (h : r ∈ l) (hm : r.may = true) : ofL l ≠ [] := by
  unfold ofL
  have hx : r ∈ sortLo (l.filter Rg.may) := sortLo_mem.2 (List.mem_filter.2 ⟨h, hm⟩)
  cases hs : sortLo (l.filter Rg.may) with
  | nil => rw [hs] at hx; cases hx
  | cons a b => rw [List.foldl_cons]; exact merge_ne b _ (mergeStep_ne [] a)

/-- What a member, or an item, is. -/
def GoodC (c : Cls) : Prop := c ≠ [] ∧ ∀ r ∈ c, r.may = true
theorem GoodC.of {l : Cls} {r : Rg} (h : r ∈ l) (hm : r.may = true) : GoodC (ofL l) := ⟨ofL_ne h hm, ofL_may l⟩
theorem GoodC.union {a b : Cls} (h : GoodC a) : GoodC (unionL a b) := by
  obtain ⟨r, l, rfl⟩ := List.exists_cons_of_ne_nil h.1
  exact .of (r := r) (by simp) (h.2 r (by simp))

theorem escL_good {r : Int} (h : 0 < (escL r).length) : GoodC (escL r) := by
  refine ⟨by intro e; rw [e] at h; simp at h, ?_⟩
  unfold escL
  repeat' split
  all_goals first | exact ofL_may _ | simp

theorem memberF_good {cs cs' : List Ch} {f g g' : Int} {c : Cls} (hv : Runes cs) (h : memberF cs f g = .ok (c, cs', g')) : GoodC c := by
  unfold memberF at h
  split at h
  · split at h
    · rename_i h2
      simp only [Except.ok.injEq, Prod.mk.injEq] at h
      obtain ⟨rfl, _⟩ := h
      exact escL_good h2
    · cases h
  · split at h
    · rename_i h2
      simp only [Bool.and_eq_true, decide_eq_true_eq] at h2
      simp only [Except.ok.injEq, Prod.mk.injEq] at h
      obtain ⟨rfl, _⟩ := h
      have := hv.peek
      exact .of (r := ⟨peekOf cs, peekOf cs⟩) (by simp) (by simp [may_iff]; omega)
    · cases h

theorem itemF_ok {cs cs' : List Ch} {f g g' : Int} {c : Cls} (hv : Runes cs) (h : itemF cs f g = .ok (c, cs', g')) : GoodC c ∧ c.length ≤ 4 ∧ cs' <:+ cs ∧ cs'.length < cs.length ∧ g' = g := by
  unfold itemF at h
  cases h1 : memberF cs f g with
  | error e => simp [h1] at h
  | ok p =>
    obtain ⟨low, cs1, g1⟩ := p
    have hg1 := memberF_good hv h1
    obtain ⟨a1, a2, a3, a4, rfl⟩ := memberF_ok hv h1
    simp only [h1] at h
    split at h
    · cases h2 : memberF (eatR dashB cs1) f g1 with
      | error e => simp [h2] at h
      | ok p =>
        obtain ⟨high, cs2, g2⟩ := p
        have hv2 := hv.suf ((eatR_suf dashB cs1).trans a3)
        have hg2 := memberF_good hv2 h2
        obtain ⟨b1, b2, b3, b4, rfl⟩ := memberF_ok hv2 h2
        simp only [h2] at h
        split at h
        · rename_i h3
          simp only [Except.ok.injEq, Prod.mk.injEq] at h
          obtain ⟨rfl, rfl, rfl⟩ := h
          refine ⟨.of (r := ⟨headLo low, headLo high⟩) (by simp) ?_, Nat.le_trans (ofL_length _) (by simp), b3.trans ((eatR_suf _ _).trans a3), ?_, rfl⟩
          · simp only [itemOk, Bool.and_eq_true, decide_eq_true_eq] at h3
            obtain ⟨q, l, rfl⟩ := List.exists_cons_of_ne_nil a1
            obtain ⟨q', l', rfl⟩ := List.exists_cons_of_ne_nil b1
            have m1 := hg1.2 q (by simp)
            have m2 := hg2.2 q' (by simp)
            simp only [may_iff, headLo] at *
            omega
          · have := (eatR_suf dashB cs1).length_le
            omega
        · cases h
    · simp only [Except.ok.injEq, Prod.mk.injEq] at h
      obtain ⟨rfl, rfl, rfl⟩ := h
      exact ⟨hg1, a2, a3, a4, rfl⟩

def ketB : ByteArray := { data := #[93] }
theorem ketB_ascii : Ascii ketB := by unfold Ascii; decide
def hatB : ByteArray := { data := #[94] }
theorem hatB_ascii : Ascii hatB := by unfold Ascii; decide

def clsLoop : Nat → Cls → List Ch → Int → Int → PR Cls
  | 0, _, _, _, _ => .error (0, 0)
  | k + 1, c, cs, from_, g => if eatB ketB cs then .ok (c, eatR ketB cs, g) else match itemF cs from_ g with
    | .error e => .error e
    | .ok (x, cs', g') => clsLoop k (unionL c x) cs' from_ g'

def oneN (c : Cls) : Nd := .mk 1 c 0 0 false 0 []
def clsFin (neg : Bool) (from_ : Int) : PR Cls → PR Nd
  | .error e => .error e
  | .ok (c, cs, g) => if decide (((if neg then notL c else c).length : Int) > 0) && decide (((if neg then notL c else c).length : Int) ≤ 64) then .ok (oneN (if neg then notL c else c), cs, g) else .error (2, from_)

def classF (cs : List Ch) (from_ g : Int) : PR Nd := match itemF (eatR hatB cs) from_ g with
  | .error e => .error e
  | .ok (c, cs1, g1) => clsFin (eatB hatB cs) from_ (clsLoop (cs1.length + 1) c cs1 from_ g1)

def encN (x : Nd) : LV := .agg (x.cells.map .iv)
theorem encN_low {n : Nat} (x : Nd) : LLowR n (encN x) := .agg (by
  intro y hy
  obtain ⟨z, _, rfl⟩ := List.mem_map.1 hy
  exact .iv z)

def zeroRow : List AV := [sct (.int .i64 0), sct (.slice none 0 0), sct (.int .i64 0), sct (.int .i64 0), sct (.bool false), sct (.int .i64 0), sct (.slice none 0 0)]

/-- A node with a class. -/
theorem cv_oneN {H : Hp} (c : Cls) : CvR H (.agg [.iv (.sc (.int .i64 1)), .iv (clsIV c), .iv (.sc (.int .i64 0)), .iv (.sc (.int .i64 0)), .iv (.sc (.bool false)), .iv (.sc (.int .i64 0)), .iv (.sc (.slice none 0 0))]) (encN (oneN c)) :=
  .lv (.agg (.cons (.refl _) (.cons (.refl _) (.cons (.refl _) (.cons (.refl _) (.cons (.refl _) (.cons (.refl _) (.cons (.nilSl 7) .nil))))))))

theorem clsFin_ok {neg : Bool} {f : Int} {c : Cls} {cs : List Ch} {g : Int} {d : Cls} (hd : d = if neg then notL c else c) (h : (decide ((d.length : Int) > 0) && decide ((d.length : Int) ≤ 64)) = true) : clsFin neg f (.ok (c, cs, g)) = .ok (oneN d, cs, g) := by
  subst hd
  simp only [clsFin, if_pos h]
theorem clsFin_err {neg : Bool} {f : Int} {c : Cls} {cs : List Ch} {g : Int} {d : Cls} (hd : d = if neg then notL c else c) (h : (decide ((d.length : Int) > 0) && decide ((d.length : Int) ≤ 64)) = false) : clsFin neg f (.ok (c, cs, g)) = .error (2, f) := by
  subst hd
  simp only [clsFin, h, Bool.false_eq_true, if_false]

theorem f93_ok (hO : OfC) (cs : List Ch) (hv : Runes cs) (hcs : cs.length ≤ 10000) (n g from_ : Int) : Meth prog 93 (prow cs n g) [.one (sct (.int .i64 from_))] (MRet encN n (classF cs from_ g)) := by
  refine .of r93_ok (by simp) (by simp [prow]) (by simp [prow]) (by simp [r93]) ?_
  simp only [oo, on, og, om, ol, oh, zN, ci, r93, initTm, Nat.reduceAdd, heap1]
  simp -implicitDefEqProofs only [ev, ↓reduceIte, Nat.reduceAdd, Nat.reduceEqDiff, Nat.reduceSub, Nat.reduceBEq, Nat.reduceLeDiff, reduceCtorEq]
  refine acall_meq (f49_eq hatB hatB_ascii cs n g) Nat.zero_lt_two rfl ?_
  simp only [Bs.without, List.contains, List.elem, beq_self_eq_true, if_true]
  simp -implicitDefEqProofs only [ev, ↓reduceIte, Nat.reduceAdd, Nat.reduceEqDiff, Nat.reduceSub, Nat.reduceBEq, Nat.reduceLeDiff, reduceCtorEq]
  have hv1 := hv.suf (eatR_suf hatB cs)
  have hl1 := (eatR_suf hatB cs).length_le
  refine acall_mret (f105_ok hO (eatR hatB cs) hv1 n g from_) (by simp) rfl (fun c0 cs0 g0 h1 => ?_) (fun c a h1 => ?_)
  · obtain ⟨hg0, hc4, hs0, hl0, rfl⟩ := itemF_ok hv1 h1
    have hF : classF cs from_ g0 = clsFin (eatB hatB cs) from_ (clsLoop (cs0.length + 1) c0 cs0 from_ g0) := by simp [classF, h1]
    generalize eatB hatB cs = neg at hF ⊢
    simp only [Bs.without, List.contains, List.elem, beq_self_eq_true, if_true]
    simp only [encC]
    simp -implicitDefEqProofs only [ev, ↓reduceIte, Nat.reduceAdd, Nat.reduceEqDiff, Nat.reduceSub, Nat.reduceBEq, Nat.reduceLeDiff, reduceCtorEq, awp_loop]
    refine aloop_mk (σ := Nat × Cls × List Ch) (fun q => [(0, .one (.ptr 0 0 0 0)), (1, .one (sct (.int .i64 from_))), (4, .one (.ptr 1 0 0 0)), (5, .one (sct (.bool neg))), (6, .one (.iv (clsIV q.2.1)))])
      (fun q => ⟨[(0, .cells 3 0 [prow q.2.2 n g0] false), (1, .cells 7 0 [zeroRow] false)], 2⟩)
      (fun q => q.2.2.length < q.1 ∧ Runes q.2.2 ∧ GoodC q.2.1 ∧ q.2.1.length + 4 * q.2.2.length ≤ 50000 ∧ classF cs from_ g0 = clsFin neg from_ (clsLoop q.1 q.2.1 q.2.2 from_ g0)) (fun q => q.1) (cs0.length + 1, c0, cs0)
      ⟨by simp, hv1.suf hs0, hg0, by simp only; have := hs0.length_le; omega, hF⟩ (wk_keep' (by simp) (by simp) ?_ ?_ ?_) ?_
    · simp only [BsEq, Bs.get, prow, zeroRow, sct, ↓reduceIte, Nat.reduceEqDiff, Nat.lt_add_one, Nat.zero_lt_succ, and_self]
    · simp [LowBs, Blk.lows, prow, zeroRow]
    · simp only [wk, ↓reduceIte, Nat.reduceEqDiff, reduceCtorEq, Nat.reduceLT]
    · rintro ⟨k, c, cs1⟩ ⟨hk, hv2, hgc, hln, hF⟩
      simp only at hk hv2 hgc hln hF
      obtain ⟨k, rfl⟩ : ∃ m, k = m + 1 := ⟨k - 1, by omega⟩
      simp only [oo, on, og, om, ol, oh, zN, ci, r93_l0, zeroRow]
      simp -implicitDefEqProofs only [ev, ↓reduceIte, Nat.reduceAdd, Nat.reduceEqDiff, Nat.reduceSub, Nat.reduceBEq, Nat.reduceLeDiff, reduceCtorEq]
      refine acall_meq (f49_eq ketB ketB_ascii cs1 n g0) Nat.zero_lt_two rfl ?_
      simp only [Bs.without, List.contains, List.elem, beq_self_eq_true, if_true]
      simp -implicitDefEqProofs only [ev, ↓reduceIte, Nat.reduceAdd, Nat.reduceEqDiff, Nat.reduceSub, Nat.reduceBEq, Nat.reduceLeDiff, reduceCtorEq]
      cases he : eatB ketB cs1 with
      | false =>
        have hR : eatR ketB cs1 = cs1 := by
          unfold eatR; unfold eatB at he
          cases h : eatOf (codes ketB) cs1 with
          | none => rfl
          | some r => simp [h] at he
        rw [hR]
        simp -implicitDefEqProofs only [ev, ↓reduceIte, Nat.reduceAdd, Nat.reduceEqDiff, Nat.reduceSub, Nat.reduceBEq, Nat.reduceLeDiff, reduceCtorEq, he]
        refine acall_mret (f105_ok hO cs1 hv2 n g0 from_) (by simp) rfl (fun x cs2 g2 h2 => ?_) (fun cc a h2 => ?_)
        · obtain ⟨hgx, hx4, hs2, hl2, rfl⟩ := itemF_ok hv2 h2
          simp only [Bs.without, List.contains, List.elem, beq_self_eq_true, if_true]
          simp only [encC]
          simp -implicitDefEqProofs only [ev, ↓reduceIte, Nat.reduceAdd, Nat.reduceEqDiff, Nat.reduceSub, Nat.reduceBEq, Nat.reduceLeDiff, reduceCtorEq]
          refine acall_ret (f106_ok hO c x (List.length_pos_iff.2 hgc.1) (by omega)) ?_
          simp -implicitDefEqProofs only [ev, ↓reduceIte, Nat.reduceAdd, Nat.reduceEqDiff, Nat.reduceSub, Nat.reduceBEq, Nat.reduceLeDiff, reduceCtorEq]
          have hul : (unionL c x).length ≤ c.length + x.length := by
            have := ofL_length (c ++ x)
            simpa [unionL] using this
          refine ⟨(k, unionL c x, cs2), ⟨by simp only; omega, hv2.suf hs2, hgc.union, by simp only; omega, ?_⟩, by simp only; omega, wk_keep' (by simp) (by simp) ?_ ?_ ?_⟩
          · rw [hF, clsLoop]
            simp [he, h2]
          · simp only [BsEq, Bs.get, prow, zeroRow, sct, ↓reduceIte, Nat.reduceEqDiff, Nat.lt_add_one, Nat.zero_lt_succ, and_self]
          · simp [LowBs, Blk.lows, prow, zeroRow]
          · simp only [wk, ↓reduceIte, Nat.reduceEqDiff, reduceCtorEq, Nat.reduceLT]
        · simp only [Bs.without, List.contains, List.elem, beq_self_eq_true, if_true]
          simp -implicitDefEqProofs only [ev, ↓reduceIte, Nat.reduceAdd, Nat.reduceEqDiff, Nat.reduceSub, Nat.reduceBEq, Nat.reduceLeDiff, reduceCtorEq]
          refine finp_mret ?_ (by simp)
          rw [hF, clsLoop]
          simp [he, h2, clsFin]
      | true =>
        rw [clsLoop, if_pos he] at hF
        simp -implicitDefEqProofs only [ev, ↓reduceIte, Nat.reduceAdd, Nat.reduceEqDiff, Nat.reduceSub, Nat.reduceBEq, Nat.reduceLeDiff, reduceCtorEq, he]
        cases neg with
        | false =>
          simp -implicitDefEqProofs only [ev, ↓reduceIte, Nat.reduceAdd, Nat.reduceEqDiff, Nat.reduceSub, Nat.reduceBEq, Nat.reduceLeDiff, reduceCtorEq]
          simp only [clsIV]
          simp -implicitDefEqProofs only [ev, ↓reduceIte, Nat.reduceAdd, Nat.reduceEqDiff, Nat.reduceSub, Nat.reduceBEq, Nat.reduceLeDiff, reduceCtorEq]
          refine .mk fun hg1 => ?_
          simp -implicitDefEqProofs only [ev, ↓reduceIte, Nat.reduceAdd, Nat.reduceEqDiff, Nat.reduceSub, Nat.reduceBEq, Nat.reduceLeDiff, reduceCtorEq]
          refine .mk (fun hc1 => ?_) (fun hc1 => ?_)
          · simp -implicitDefEqProofs only [ev, ↓reduceIte, Nat.reduceAdd, Nat.reduceEqDiff, Nat.reduceSub, Nat.reduceBEq, Nat.reduceLeDiff, reduceCtorEq, hc1]
            refine .mk fun _ => ?_
            simp -implicitDefEqProofs only [ev, ↓reduceIte, Nat.reduceAdd, Nat.reduceEqDiff, Nat.reduceSub, Nat.reduceBEq, Nat.reduceLeDiff, reduceCtorEq]
            refine acall_must _ _ (fun hc2 => ?_) (fun hc2 => ?_)
            · simp -implicitDefEqProofs only [ev, ↓reduceIte, Nat.reduceAdd, Nat.reduceEqDiff, Nat.reduceSub, Nat.reduceBEq, Nat.reduceLeDiff, reduceCtorEq]
              refine fin_mcv [] (by simp) (hF.trans (clsFin_ok (d := c) rfl (by rw [hc1, hc2]; rfl))) (by simp) rfl (encN_low _) (cv_oneN _)
            · simp -implicitDefEqProofs only [ev, ↓reduceIte, Nat.reduceAdd, Nat.reduceEqDiff, Nat.reduceSub, Nat.reduceBEq, Nat.reduceLeDiff, reduceCtorEq]
              exact finp_mret (hF.trans (clsFin_err (d := c) rfl (by rw [hc1, hc2]; rfl))) (by simp)
          · simp -implicitDefEqProofs only [ev, ↓reduceIte, Nat.reduceAdd, Nat.reduceEqDiff, Nat.reduceSub, Nat.reduceBEq, Nat.reduceLeDiff, reduceCtorEq, hc1]
            refine acall_must _ _ (fun hc2 => by cases hc2) (fun hc2 => ?_)
            simp -implicitDefEqProofs only [ev, ↓reduceIte, Nat.reduceAdd, Nat.reduceEqDiff, Nat.reduceSub, Nat.reduceBEq, Nat.reduceLeDiff, reduceCtorEq]
            exact finp_mret (hF.trans (clsFin_err (d := c) rfl (by rw [hc1]; rfl))) (by simp)
        | true =>
          simp -implicitDefEqProofs only [ev, ↓reduceIte, Nat.reduceAdd, Nat.reduceEqDiff, Nat.reduceSub, Nat.reduceBEq, Nat.reduceLeDiff, reduceCtorEq]
          obtain ⟨r, l, rfl⟩ := List.exists_cons_of_ne_nil hgc.1
          refine acall_ret (f46_ok hO r l (by simp at hln; omega)) ?_
          simp only [clsIV]
          simp -implicitDefEqProofs only [ev, ↓reduceIte, Nat.reduceAdd, Nat.reduceEqDiff, Nat.reduceSub, Nat.reduceBEq, Nat.reduceLeDiff, reduceCtorEq]
          refine .mk fun hg1 => ?_
          simp -implicitDefEqProofs only [ev, ↓reduceIte, Nat.reduceAdd, Nat.reduceEqDiff, Nat.reduceSub, Nat.reduceBEq, Nat.reduceLeDiff, reduceCtorEq]
          refine .mk (fun hc1 => ?_) (fun hc1 => ?_)
          · simp -implicitDefEqProofs only [ev, ↓reduceIte, Nat.reduceAdd, Nat.reduceEqDiff, Nat.reduceSub, Nat.reduceBEq, Nat.reduceLeDiff, reduceCtorEq, hc1]
            refine .mk fun _ => ?_
            simp -implicitDefEqProofs only [ev, ↓reduceIte, Nat.reduceAdd, Nat.reduceEqDiff, Nat.reduceSub, Nat.reduceBEq, Nat.reduceLeDiff, reduceCtorEq]
            refine acall_must _ _ (fun hc2 => ?_) (fun hc2 => ?_)
            · simp -implicitDefEqProofs only [ev, ↓reduceIte, Nat.reduceAdd, Nat.reduceEqDiff, Nat.reduceSub, Nat.reduceBEq, Nat.reduceLeDiff, reduceCtorEq]
              refine fin_mcv [] (by simp) (hF.trans (clsFin_ok (d := notL (r :: l)) rfl (by rw [hc1, hc2]; rfl))) (by simp) rfl (encN_low _) (cv_oneN _)
            · simp -implicitDefEqProofs only [ev, ↓reduceIte, Nat.reduceAdd, Nat.reduceEqDiff, Nat.reduceSub, Nat.reduceBEq, Nat.reduceLeDiff, reduceCtorEq]
              exact finp_mret (hF.trans (clsFin_err (d := notL (r :: l)) rfl (by rw [hc1, hc2]; rfl))) (by simp)
          · simp -implicitDefEqProofs only [ev, ↓reduceIte, Nat.reduceAdd, Nat.reduceEqDiff, Nat.reduceSub, Nat.reduceBEq, Nat.reduceLeDiff, reduceCtorEq, hc1]
            refine acall_must _ _ (fun hc2 => by cases hc2) (fun hc2 => ?_)
            simp -implicitDefEqProofs only [ev, ↓reduceIte, Nat.reduceAdd, Nat.reduceEqDiff, Nat.reduceSub, Nat.reduceBEq, Nat.reduceLeDiff, reduceCtorEq]
            exact finp_mret (hF.trans (clsFin_err (d := notL (r :: l)) rfl (by rw [hc1]; rfl))) (by simp)
  · simp only [Bs.without, List.contains, List.elem, beq_self_eq_true, if_true]
    simp -implicitDefEqProofs only [ev, ↓reduceIte, Nat.reduceAdd, Nat.reduceEqDiff, Nat.reduceSub, Nat.reduceBEq, Nat.reduceLeDiff, reduceCtorEq]
    refine finp_mret ?_ (by simp)
    simp [classF, h1]
end Go.Av

namespace Go.Av
open Go.RowKit Go.Proofs.Tryz

def flat1 (k : Int) (x : Nd) : List Nd := if x.kind == k then x.kids else [x]
def flatL (k : Int) (l : List Nd) : List Nd := l.flatMap (flat1 k)

theorem length_le_ndSize : ∀ l : List Nd, l.length ≤ ndSize l
  | [] => by simp [ndSize]
  | x :: r => by
    have := length_le_ndSize r
    cases x
    simp only [ndSize, Nd.size, List.length_cons]; omega
theorem flat1_size (k : Int) (x : Nd) : ndSize (flat1 k x) ≤ x.size := by
  cases x with
  | mk kk c a b z m ks =>
  unfold flat1
  split
  · simp only [Nd.kids, Nd.size]; omega
  · simp [ndSize]
theorem flatL_size (k : Int) : ∀ l : List Nd, ndSize (flatL k l) ≤ ndSize l
  | [] => by simp [flatL, ndSize]
  | x :: r => by
    have h1 := flat1_size k x
    have h2 := flatL_size k r
    simp only [flatL, List.flatMap_cons, ndSize, ndSize_append] at *
    omega

theorem f52_ok (k : Int) (l : List Nd) (hb : ndSize l ≤ 1000000) : RetNew prog 52 [.one (sct (.int .i64 k)), .one (.iv (.sl 7 (ndRows l)))] 7 (rowsOf Nd.cells (flatL k l)) := by
  have hll := length_le_ndSize l
  refine ⟨calls_of_rsv r52_ok (by simp [r52]) ?_, by simp, rowsOf_low _ _⟩
  simp only [oo, on, og, om, ol, oh, zN, ci, r52, initTm, Nat.reduceAdd, ndRows_eq]
  simp -implicitDefEqProofs only [ev, ↓reduceIte, Nat.reduceAdd, Nat.reduceEqDiff, Nat.reduceLeDiff, reduceCtorEq, Hp.nil]
  refine .mk fun h1 => ?_
  simp -implicitDefEqProofs only [ev, ↓reduceIte, Nat.reduceAdd, Nat.reduceEqDiff, Nat.reduceLeDiff, reduceCtorEq, awp_loop]
  refine aloop_mk (σ := Nat × List Nd × Nat) (fun q => [(0, .one (sct (.int .i64 k))), (8, .one (.iv (.sl 7 (l.map Nd.cells)))), (9, .one (sct (.int .i64 l.length))), (10, .one (sct (.int .i64 q.1))), (5, .one (.own 0 q.2.2 0 q.2.1.length))])
    (fun q => ⟨[(0, .cells 7 q.2.2 (rowsOf Nd.cells q.2.1) false)], 1⟩)
    (fun q => q.1 ≤ l.length ∧ q.2.1 = flatL k (l.take q.1)) (fun q => l.length - q.1) (0, [], 0) ⟨by simp, rfl⟩ (wk_conv [] [7] (by simp) (by simp [Hp.prep, Hp.freeze, Hp.ghost, Hp.new]) (by simp) ?_ ?_ ?_) ?_
  · simp [BsEq, Hp.prep, Hp.freeze, Hp.ghost, Hp.new, Bs.freeze, Bs.get, rowsOf]
  · exact ⟨rowsOf_low _ _, trivial⟩
  · refine ⟨⟨by simp, _, rfl, .refl _⟩, ⟨by simp, _, rfl, .refl _⟩, ⟨by simp, _, rfl, .refl _⟩, ⟨by simp, _, rfl, .refl _⟩, ⟨by simp, _, rfl, .one (.nilOwn 0 0 7 [] false ?_ ?_)⟩, trivial⟩
    · simp [Hp.prep, Hp.freeze, Hp.ghost, Hp.new, Bs.freeze, Bs.get]
    · simp [Hp.prep, Hp.freeze, Hp.ghost, Hp.new]
  · rintro ⟨i, out, ver⟩ ⟨hi, hE⟩
    simp only at hi hE
    simp only [oo, on, og, om, ol, oh, zN, ci, r52_l0]
    simp -implicitDefEqProofs only [ev, ↓reduceIte, Nat.reduceAdd, Nat.reduceEqDiff, Nat.reduceLeDiff, reduceCtorEq]
    refine .mk (fun h => ?_) (fun h => ?_)
    · have hlt : i < l.length := by simpa using h
      have hx := List.getElem?_eq_getElem hlt
      have htk : l.take (i + 1) = l.take i ++ [l[i]] := by rw [List.take_add_one, List.getElem?_eq_getElem hlt]; rfl
      have hfl : flatL k (l.take (i + 1)) = flatL k (l.take i) ++ flat1 k l[i] := by rw [htk]; simp only [flatL, List.flatMap_append, List.flatMap_cons, List.flatMap_nil, List.append_nil]
      have hsz : (flatL k (l.take (i + 1))).length ≤ 1000000 := by
        refine Nat.le_trans (length_le_ndSize _) (Nat.le_trans (flatL_size _ _) (Nat.le_trans (ndSize_take _ _) hb))
      rw [← hE] at hfl
      have hol := congrArg List.length hfl
      simp only [List.length_append] at hol
      cases hxe : l[i] with
      | mk kk c a b z m ks =>
        rw [hxe] at hx hfl hol
        simp -implicitDefEqProofs only [ev, ↓reduceIte, Nat.reduceAdd, Nat.reduceEqDiff, Nat.reduceLeDiff, reduceCtorEq, Nat.zero_add, List.getElem?_map, hx, Nd.cells, ndRows_eq, Int.natCast_nonneg]
        refine .mk (fun hk => ?_) (fun hk => ?_)
        · have hf1 : flat1 k (.mk kk c a b z m ks) = ks := by simp [flat1, Nd.kind, Nd.kids, hk]
          rw [hf1] at hfl hol
          simp -implicitDefEqProofs only [ev, ↓reduceIte, Nat.reduceAdd, Nat.reduceEqDiff, Nat.reduceLeDiff, reduceCtorEq]
          rw [wrap64 (n := (i : Int) + 1) (by omega) (by omega)]
          refine ⟨⟨by omega, by omega⟩, (i + 1, out ++ ks, ver + 1), ⟨by simp only; omega, hfl.symm⟩, by simp only; omega, wk_keep' (by simp) (by simp) ?_ ?_ ?_⟩
          · rw [List.take_of_length_le (by rw [rowsOf_length]; exact Nat.le_refl _)]
            refine ⟨⟨by simp, ?_⟩, trivial⟩
            simp only [Bs.get, rowsOf, List.map_append, List.map_map, Nat.reduceEqDiff, if_false, if_true]
            rfl
          · exact ⟨rowsOf_low _ _, trivial⟩
          · simp only [wk, ↓reduceIte, Nat.reduceEqDiff, reduceCtorEq, Nat.reduceLT]
            simp
        · have hf1 : flat1 k (.mk kk c a b z m ks) = [.mk kk c a b z m ks] := by simp [flat1, Nd.kind, hk]
          rw [hf1] at hfl hol
          simp only [List.length_cons, List.length_nil] at hol
          simp -implicitDefEqProofs only [ev, ↓reduceIte, Nat.reduceAdd, Nat.reduceEqDiff, Nat.reduceLeDiff, reduceCtorEq]
          rw [wrap64 (n := (i : Int) + 1) (by omega) (by omega)]
          refine ⟨⟨by omega, by omega⟩, (i + 1, out ++ [.mk kk c a b z m ks], ver + 1), ⟨by simp only; omega, hfl.symm⟩, by simp only; omega, wk_keep' (by simp) (by simp) ?_ ?_ ?_⟩
          · rw [List.take_of_length_le (by rw [rowsOf_length]; exact Nat.le_refl _)]
            refine ⟨⟨by simp, ?_⟩, trivial⟩
            simp only [Bs.get, rowsOf, List.map_append, List.map_cons, List.map_nil, Nd.cells, ndRows_eq, Nat.reduceEqDiff, if_false, if_true]
          · exact ⟨rowsOf_low _ _, trivial⟩
          · simp only [wk, ↓reduceIte, Nat.reduceEqDiff, reduceCtorEq, Nat.reduceLT]
            simp
    · simp -implicitDefEqProofs only [ev, ↓reduceIte, Nat.reduceAdd, Nat.reduceEqDiff, Nat.reduceLeDiff, reduceCtorEq]
      have hi' : i = l.length := by simp at h; omega
      subst hi'
      rw [List.take_length] at hE
      subst hE
      rw [← rowsOf_length Nd.cells]
      exact fin_new rfl Nat.zero_lt_one (rowsOf_low _ _) ⟨ver, rfl, rfl⟩
end Go.Av

