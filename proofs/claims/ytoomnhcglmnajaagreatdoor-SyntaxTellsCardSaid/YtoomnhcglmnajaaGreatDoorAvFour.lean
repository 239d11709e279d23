/-
  Contracts of functions of the syntax and the classes; no condition.
-/
import Derived.Test.YtoomnhcglmnajaaGreatDoorAvThree
import Derived.Test.YtoomnhcglmnajaaGreatDoorAvCode
set_option linter.unusedVariables false
set_option linter.unusedSimpArgs false
namespace Go.Av
open Go.RowKit Go.Proofs.Tryz

theorem wrap64 {n : Int} (h0 : -9223372036854775808 ≤ n) (h : n ≤ 9223372036854775807) : IntKind.i64.wrap n = n := by
  rw [IntKind.wrap_i64]; omega

theorem f63_ok (a b : Cls) : Ret prog 63 [.one (.iv (clsIV a)), .one (.iv (clsIV b))] (.one (sct (.bool (a == b)))) := by
  refine .of r63_ok (by simp) (.one (by simp)) (by simp [r63]) ?_
  simp only [oo, on, og, om, ol, oh, zN, ci, r63, initTm, Nat.reduceAdd, clsIV]
  simp -implicitDefEqProofs only [ev, ↓reduceIte, Nat.reduceAdd, Nat.reduceEqDiff, Nat.reduceLeDiff, reduceCtorEq]
  refine .mk fun h1 => ?_
  simp -implicitDefEqProofs only [ev, ↓reduceIte, Nat.reduceAdd, Nat.reduceEqDiff, Nat.reduceLeDiff, reduceCtorEq]
  refine .mk fun h2 => ?_
  simp -implicitDefEqProofs only [ev, ↓reduceIte, Nat.reduceAdd, Nat.reduceEqDiff, Nat.reduceLeDiff, reduceCtorEq, h1]
  refine .mk (fun h => ?_) (fun h => ?_)
  · simp -implicitDefEqProofs only [ev, ↓reduceIte, Nat.reduceAdd, Nat.reduceEqDiff, Nat.reduceLeDiff, reduceCtorEq]
    refine fin_same (.one (by simp)) ?_
    simp at h
    simp [Hp.nil]
    intro e; subst e; simp at h
  · have hl : a.length = b.length := Int.ofNat_inj.1 (by simpa using h)
    simp -implicitDefEqProofs only [ev, ↓reduceIte, Nat.reduceAdd, Nat.reduceEqDiff, Nat.reduceLeDiff, reduceCtorEq, awp_loop, h1]
    refine aloop_mk (σ := Nat) (fun i => [(12, .one (sct (.int .i64 a.length))), (13, .one (sct (.int .i64 i))), (0, .one (.iv (.sl 2 (a.map Rg.cells)))), (1, .one (.iv (.sl 2 (b.map Rg.cells))))])
      (fun _ => Hp.nil) (fun i => i ≤ a.length ∧ ∀ j, j < i → a[j]? = b[j]?) (fun i => a.length - i) 0 (by simp) (wk_none ?_) ?_
    · simp only [wk, ↓reduceIte, Nat.reduceEqDiff, reduceCtorEq, Nat.reduceLT]
      simp
    · rintro i ⟨hi, hE⟩
      simp only [oo, on, og, om, ol, oh, zN, ci, r63_l0]
      simp -implicitDefEqProofs only [ev, ↓reduceIte, Nat.reduceAdd, Nat.reduceEqDiff, Nat.reduceLeDiff, reduceCtorEq]
      refine .mk (fun h => ?_) (fun h => ?_)
      · have hlt : i < a.length := by simpa using h
        have hlt' : i < b.length := by omega
        simp -implicitDefEqProofs only [ev, ↓reduceIte, Nat.reduceAdd, Nat.reduceEqDiff, Nat.reduceLeDiff, reduceCtorEq, List.getElem?_map, List.getElem?_eq_getElem hlt, List.getElem?_eq_getElem hlt', Int.natCast_nonneg, Rg.cells]
        refine .mk (fun hq => ?_) (fun hq => ?_)
        · simp -implicitDefEqProofs only [ev, ↓reduceIte, Nat.reduceAdd, Nat.reduceEqDiff, Nat.reduceLeDiff, reduceCtorEq]
          refine fin_same (.one (by simp)) ?_
          have hne : a[i] ≠ b[i] := by intro e; simp [e] at hq
          simp [Hp.nil]
          intro e; subst e; exact hne rfl
        · simp -implicitDefEqProofs only [ev, ↓reduceIte, Nat.reduceAdd, Nat.reduceEqDiff, Nat.reduceLeDiff, reduceCtorEq]
          have heq : a[i] = b[i] := by
            cases ha : a[i]; cases hb : b[i]
            simp [ha, hb] at hq
            simp [hq]
          refine ⟨i + 1, ⟨by omega, fun j hj => ?_⟩, by omega, wk_none ?_⟩
          · rcases Nat.lt_or_ge j i with hj' | hj'
            · exact hE j hj'
            · have : j = i := by omega
              subst this
              simp [hlt, hlt', heq]
          · rw [wrap64 (by omega) (by omega)]
            simp only [wk, ↓reduceIte, Nat.reduceEqDiff, reduceCtorEq, Nat.reduceLT]
            simp
      · simp -implicitDefEqProofs only [ev, ↓reduceIte, Nat.reduceAdd, Nat.reduceEqDiff, Nat.reduceLeDiff, reduceCtorEq]
        have hi' : i = a.length := by simp at h; omega
        refine fin_same (.one (by simp)) ?_
        simp [Hp.nil]
        exact List.ext_getElem? fun j => by
          rcases Nat.lt_or_ge j i with hj | hj
          · exact hE j hj
          · simp [List.getElem?_eq_none (show a.length ≤ j by omega), List.getElem?_eq_none (show b.length ≤ j by omega)]

theorem f38_ok (a b : Cls) : Ret prog 38 [.one (.iv (clsIV a)), .one (.iv (clsIV b))] (.one (sct (.bool (a == b)))) := by
  refine .of r38_ok (by simp) (.one (by simp)) (by simp [r38]) ?_
  simp only [oo, on, og, om, ol, oh, zN, ci, r38, initTm, Nat.reduceAdd]
  simp -implicitDefEqProofs only [ev, ↓reduceIte, Nat.reduceAdd, Nat.reduceEqDiff, Nat.reduceLeDiff, reduceCtorEq]
  refine acall_ret (f63_ok a b) ?_
  simp -implicitDefEqProofs only [ev, ↓reduceIte, Nat.reduceAdd, Nat.reduceEqDiff, Nat.reduceLeDiff, reduceCtorEq]
  exact fin_same (.one (by simp)) ⟨rfl, rfl⟩

theorem f39_ok (g : FuncId) (l l' : List Nd) (E : Nat → Bool) (hB : HasB prog g)
    (hg : ∀ (i : Nat) (x y : Nd), l[i]? = some x → l'[i]? = some y → Ret prog g [.agg (x.cells.map .iv), .agg (y.cells.map .iv)] (.one (sct (.bool (E i))))) :
    Ret prog 39 [.one (.iv (.sl 7 (ndRows l))), .one (.iv (.sl 7 (ndRows l'))), .one (.iv (.sc (.func (.func g) #[] #[])))] (.one (sct (.bool (l.length == l'.length && (List.range l.length).all E)))) := by
  refine .of r39_ok (by simp) (.one (by simp)) (by simp [r39]) ?_
  simp only [oo, on, og, om, ol, oh, zN, ci, r39, initTm, Nat.reduceAdd, ndRows_eq]
  simp -implicitDefEqProofs only [ev, ↓reduceIte, Nat.reduceAdd, Nat.reduceEqDiff, Nat.reduceLeDiff, reduceCtorEq]
  refine .mk fun h1 => ?_
  simp -implicitDefEqProofs only [ev, ↓reduceIte, Nat.reduceAdd, Nat.reduceEqDiff, Nat.reduceLeDiff, reduceCtorEq]
  refine .mk fun h2 => ?_
  simp -implicitDefEqProofs only [ev, ↓reduceIte, Nat.reduceAdd, Nat.reduceEqDiff, Nat.reduceLeDiff, reduceCtorEq, h1]
  refine .mk (fun h => ?_) (fun h => ?_)
  · simp -implicitDefEqProofs only [ev, ↓reduceIte, Nat.reduceAdd, Nat.reduceEqDiff, Nat.reduceLeDiff, reduceCtorEq]
    refine fin_same (.one (by simp)) ?_
    simp at h
    have : (l.length == l'.length) = false := by simp; omega
    simp [Hp.nil, this]
  · have hl : l.length = l'.length := Int.ofNat_inj.1 (by simpa using h)
    simp -implicitDefEqProofs only [ev, ↓reduceIte, Nat.reduceAdd, Nat.reduceEqDiff, Nat.reduceLeDiff, reduceCtorEq, awp_loop, h1]
    refine aloop_mk (σ := Nat) (fun i => [(15, .one (.iv (.sl 7 (l.map Nd.cells)))), (16, .one (sct (.int .i64 l.length))), (17, .one (sct (.int .i64 i))), (1, .one (.iv (.sl 7 (l'.map Nd.cells)))), (2, .one (.iv (.sc (.func (.func g) #[] #[]))))])
      (fun _ => Hp.nil) (fun i => i ≤ l.length ∧ ∀ j, j < i → E j = true) (fun i => l.length - i) 0 (by simp) (wk_none ?_) ?_
    · simp only [wk, ↓reduceIte, Nat.reduceEqDiff, reduceCtorEq, Nat.reduceLT]
      simp
    · rintro i ⟨hi, hE⟩
      simp only [oo, on, og, om, ol, oh, zN, ci, r39_l0]
      simp -implicitDefEqProofs only [ev, ↓reduceIte, Nat.reduceAdd, Nat.reduceEqDiff, Nat.reduceLeDiff, reduceCtorEq]
      refine .mk (fun h => ?_) (fun h => ?_)
      · have hlt : i < l.length := by simpa using h
        have hlt' : i < l'.length := by omega
        have hx := List.getElem?_eq_getElem hlt
        have hy := List.getElem?_eq_getElem hlt'
        have hr := hg i _ _ hx hy
        cases hxe : l[i] with
        | mk k c a b z n ks =>
          cases hye : l'[i] with
          | mk k' c' a' b' z' n' ks' =>
            rw [hxe, hye] at hr
            simp only [Nd.cells, List.map_cons, List.map_nil] at hr
            simp -implicitDefEqProofs only [ev, ↓reduceIte, Nat.reduceAdd, Nat.reduceEqDiff, Nat.reduceLeDiff, reduceCtorEq, List.getElem?_map, hx, hy, hxe, hye, Nd.cells, Int.natCast_nonneg]
            refine ⟨hB, acall_ret hr ?_⟩
            simp -implicitDefEqProofs only [ev, ↓reduceIte, Nat.reduceAdd, Nat.reduceEqDiff, Nat.reduceLeDiff, reduceCtorEq]
            refine .mk (fun hq => ?_) (fun hq => ?_)
            · simp -implicitDefEqProofs only [ev, ↓reduceIte, Nat.reduceAdd, Nat.reduceEqDiff, Nat.reduceLeDiff, reduceCtorEq]
              refine fin_same (.one (by simp)) ?_
              have : (List.range l.length).all E = false := by
                rw [List.all_eq_false]
                exact ⟨i, by simpa using hlt, by simpa using hq⟩
              simp [Hp.nil, this]
            · simp -implicitDefEqProofs only [ev, ↓reduceIte, Nat.reduceAdd, Nat.reduceEqDiff, Nat.reduceLeDiff, reduceCtorEq]
              refine ⟨i + 1, ⟨by omega, fun j hj => ?_⟩, by omega, wk_none ?_⟩
              · rcases Nat.lt_or_ge j i with hj' | hj'
                · exact hE j hj'
                · have : j = i := by omega
                  subst this
                  simpa using hq
              · rw [wrap64 (by omega) (by omega)]
                simp only [wk, ↓reduceIte, Nat.reduceEqDiff, reduceCtorEq, Nat.reduceLT]
                simp
      · simp -implicitDefEqProofs only [ev, ↓reduceIte, Nat.reduceAdd, Nat.reduceEqDiff, Nat.reduceLeDiff, reduceCtorEq]
        have hi' : i = l.length := by simp at h; omega
        refine fin_same (.one (by simp)) ?_
        have : (List.range l.length).all E = true := by
          rw [List.all_eq_true]
          intro j hj
          exact hE j (by simp at hj; omega)
        refine ⟨?_, rfl⟩
        rw [this]; simp [hl, sct]

def hasBb (P : Program) (g : FuncId) : Bool := match P.funcs[g]? with
  | some fn => !fn.body.isNone && !(fn.name == "runtime.NumGoroutine")
  | none => false
theorem hasBb_ok {P : Program} {g : FuncId} (h : hasBb P g = true) : HasB P g := by
  unfold hasBb at h
  split at h
  · rename_i fn hf
    simp only [Bool.and_eq_true, Bool.not_eq_true'] at h
    exact ⟨fn, hf, h.1, h.2⟩
  · cases h
theorem hasB16 : HasB prog 16 := hasBb_ok (by kernel_rfl)

mutual
def Nd.size : Nd → Nat
  | .mk _ _ _ _ _ _ ks => 1 + ndSize ks
def ndSize : List Nd → Nat
  | [] => 0
  | x :: r => Nd.size x + ndSize r
end
theorem ndSize_mem {x : Nd} : ∀ {l : List Nd}, x ∈ l → x.size ≤ ndSize l
  | [], h => by cases h
  | y :: r, h => by
    simp only [ndSize]
    rcases List.mem_cons.1 h with rfl | h
    · omega
    · have := ndSize_mem h; omega

theorem f16_step (n : Nat) (ih : ∀ (x y : Nd), x.size < n → Ret prog 16 [.agg (x.cells.map .iv), .agg (y.cells.map .iv)] (.one (sct (.bool (Nd.same x y))))) (x y : Nd) (hn : x.size ≤ n) :
    Ret prog 16 [.agg (x.cells.map .iv), .agg (y.cells.map .iv)] (.one (sct (.bool (Nd.same x y)))) := by
  cases x with
  | mk k c a b z m ks =>
  cases y with
  | mk k' c' a' b' z' m' ks' =>
  have hcls := f38_ok c c'
  have hkids := f39_ok 16 ks ks' (sameAt ks ks') hasB16 (fun i u v hu hv => by
      rw [show sameAt ks ks' i = Nd.same u v by simp [sameAt, hu, hv]]
      exact ih u v (by
        have := ndSize_mem (List.mem_of_getElem? hu)
        simp only [Nd.size] at hn; omega))
  rw [← ndSames_eq] at hkids
  simp only [Nd.same]
  refine .of r16_ok (by simp [Nd.cells, clsIV]) (.one (by simp)) (by simp [r16]) ?_
  simp only [oo, on, og, om, ol, oh, zN, ci, r16, initTm, Nat.reduceAdd, Nd.cells, List.map_cons, List.map_nil]
  simp -implicitDefEqProofs only [ev, ↓reduceIte, Nat.reduceAdd, Nat.reduceEqDiff, Nat.reduceLeDiff, reduceCtorEq]
  have done : ∀ (q : Bool) (hp : Hp), Fin 0 (fun ae hp => ae = AE.ret (LV.one (AV.iv (IV.sc (Value.bool q)))) ∧ hp = { bs := [], nxt := 0 }) (LV.one (AV.iv (IV.sc (Value.bool q)))) hp := fun q hp => fin_same (.one (by simp)) ⟨rfl, rfl⟩
  refine .mk (fun h => ?_) (fun h => ?_)
  · simp -implicitDefEqProofs only [ev, ↓reduceIte, Nat.reduceAdd, Nat.reduceEqDiff, Nat.reduceLeDiff, reduceCtorEq, h]
    refine acall_ret hcls ?_
    simp -implicitDefEqProofs only [ev, ↓reduceIte, Nat.reduceAdd, Nat.reduceEqDiff, Nat.reduceLeDiff, reduceCtorEq, h]
    refine .mk (fun h2 => ?_) (fun h2 => ?_)
    · simp -implicitDefEqProofs only [ev, ↓reduceIte, Nat.reduceAdd, Nat.reduceEqDiff, Nat.reduceLeDiff, reduceCtorEq, h2]
      refine .mk (fun h3 => ?_) (fun h3 => ?_)
      · simp -implicitDefEqProofs only [ev, ↓reduceIte, Nat.reduceAdd, Nat.reduceEqDiff, Nat.reduceLeDiff, reduceCtorEq, h3]
        refine .mk (fun h4 => ?_) (fun h4 => ?_)
        · simp -implicitDefEqProofs only [ev, ↓reduceIte, Nat.reduceAdd, Nat.reduceEqDiff, Nat.reduceLeDiff, reduceCtorEq, h4]
          refine .mk (fun h5 => ?_) (fun h5 => ?_)
          · simp -implicitDefEqProofs only [ev, ↓reduceIte, Nat.reduceAdd, Nat.reduceEqDiff, Nat.reduceLeDiff, reduceCtorEq, h5]
            refine .mk (fun h6 => ?_) (fun h6 => ?_)
            · simp -implicitDefEqProofs only [ev, ↓reduceIte, Nat.reduceAdd, Nat.reduceEqDiff, Nat.reduceLeDiff, reduceCtorEq, h6]
              refine acall_ret hkids ?_
              simp -implicitDefEqProofs only [ev, ↓reduceIte, Nat.reduceAdd, Nat.reduceEqDiff, Nat.reduceLeDiff, reduceCtorEq]
              exact done _ _
            · simp -implicitDefEqProofs only [ev, ↓reduceIte, Nat.reduceAdd, Nat.reduceEqDiff, Nat.reduceLeDiff, reduceCtorEq, h6, Bool.false_and]
              exact done _ _
          · simp -implicitDefEqProofs only [ev, ↓reduceIte, Nat.reduceAdd, Nat.reduceEqDiff, Nat.reduceLeDiff, reduceCtorEq, h5, Bool.false_and]
            exact done _ _
        · simp -implicitDefEqProofs only [ev, ↓reduceIte, Nat.reduceAdd, Nat.reduceEqDiff, Nat.reduceLeDiff, reduceCtorEq, h4, Bool.false_and]
          exact done _ _
      · simp -implicitDefEqProofs only [ev, ↓reduceIte, Nat.reduceAdd, Nat.reduceEqDiff, Nat.reduceLeDiff, reduceCtorEq, h3, Bool.false_and]
        exact done _ _
    · simp -implicitDefEqProofs only [ev, ↓reduceIte, Nat.reduceAdd, Nat.reduceEqDiff, Nat.reduceLeDiff, reduceCtorEq, h2, Bool.false_and]
      exact done _ _
  · simp -implicitDefEqProofs only [ev, ↓reduceIte, Nat.reduceAdd, Nat.reduceEqDiff, Nat.reduceLeDiff, reduceCtorEq, h, Bool.false_and]
    exact done _ _

theorem f16_all (n : Nat) : ∀ (x y : Nd), x.size ≤ n → Ret prog 16 [.agg (x.cells.map .iv), .agg (y.cells.map .iv)] (.one (sct (.bool (Nd.same x y)))) := by
  induction n with
  | zero => intro x y hx; cases x; simp [Nd.size] at hx
  | succ n ih => intro x y hx; exact f16_step (n + 1) (fun x y h => ih x y (by omega)) x y hx

theorem f16_ok (x y : Nd) : Ret prog 16 [.agg (x.cells.map .iv), .agg (y.cells.map .iv)] (.one (sct (.bool (Nd.same x y)))) := f16_all _ x y (Nat.le_refl _)
end Go.Av

namespace Go.Av
open Go.RowKit Go.Proofs.Tryz

theorem ndSize_take : ∀ (l : List Nd) (i : Nat), ndSize (l.take i) ≤ ndSize l
  | [], i => by simp [ndSize]
  | x :: r, 0 => by simp [ndSize]
  | x :: r, i + 1 => by
    have := ndSize_take r i
    simp only [List.take_succ_cons, ndSize]; omega
theorem ndSize_append : ∀ (l m : List Nd), ndSize (l ++ m) = ndSize l + ndSize m
  | [], m => by simp [ndSize]
  | x :: r, m => by simp only [List.cons_append, ndSize, ndSize_append r m]; omega
theorem ndSize_succ {l : List Nd} {i : Nat} (h : i < l.length) : ndSize (l.take (i + 1)) = ndSize (l.take i) + l[i].size := by
  rw [List.take_add_one, ndSize_append]
  simp [List.getElem?_eq_getElem h, ndSize]

theorem f20_step (n : Nat) (ih : ∀ (x : Nd), x.size < n → x.size ≤ 4611686018427387904 → Ret prog 20 [.agg (x.cells.map .iv)] (.one (sct (.int .i64 x.size)))) (x : Nd) (hn : x.size ≤ n) (hb : x.size ≤ 4611686018427387904) :
    Ret prog 20 [.agg (x.cells.map .iv)] (.one (sct (.int .i64 x.size))) := by
  cases x with
  | mk k c a b z m ks =>
  simp only [Nd.size] at hn hb
  refine .of r20_ok (by simp [Nd.cells, clsIV]) (.one (by simp)) (by simp [r20]) ?_
  simp only [oo, on, og, om, ol, oh, zN, ci, r20, initTm, Nat.reduceAdd, Nd.cells, List.map_cons, List.map_nil, ndRows_eq]
  simp -implicitDefEqProofs only [ev, ↓reduceIte, Nat.reduceAdd, Nat.reduceEqDiff, Nat.reduceLeDiff, reduceCtorEq]
  refine .mk fun h1 => ?_
  simp -implicitDefEqProofs only [ev, ↓reduceIte, Nat.reduceAdd, Nat.reduceEqDiff, Nat.reduceLeDiff, reduceCtorEq, awp_loop]
  refine aloop_mk (σ := Nat) (fun i => [(7, .one (.iv (.sl 7 (ks.map Nd.cells)))), (8, .one (sct (.int .i64 ks.length))), (9, .one (sct (.int .i64 i))), (3, .one (sct (.int .i64 (1 + ndSize (ks.take i) : Nat))))])
    (fun _ => Hp.nil) (fun i => i ≤ ks.length) (fun i => ks.length - i) 0 (by simp) (wk_none ?_) ?_
  · simp only [wk, ↓reduceIte, Nat.reduceEqDiff, reduceCtorEq, Nat.reduceLT]
    simp [ndSize]
  · intro i hi
    simp only [oo, on, og, om, ol, oh, zN, ci, r20_l0]
    simp -implicitDefEqProofs only [ev, ↓reduceIte, Nat.reduceAdd, Nat.reduceEqDiff, Nat.reduceLeDiff, reduceCtorEq]
    refine .mk (fun h => ?_) (fun h => ?_)
    · have hlt : i < ks.length := by simpa using h
      have hx := List.getElem?_eq_getElem hlt
      have hs := ndSize_mem (List.getElem_mem hlt)
      have hr := ih ks[i] (by omega) (by omega)
      have hsum := ndSize_succ hlt
      have hle := ndSize_take ks (i + 1)
      cases hxe : ks[i] with
      | mk k' c' a' b' z' m' ks' =>
        rw [hxe] at hr hsum hs
        simp only [Nd.cells, List.map_cons, List.map_nil] at hr
        simp -implicitDefEqProofs only [ev, ↓reduceIte, Nat.reduceAdd, Nat.reduceEqDiff, Nat.reduceLeDiff, reduceCtorEq, List.getElem?_map, hx, hxe, Nd.cells, Int.natCast_nonneg]
        refine acall_ret hr ?_
        simp -implicitDefEqProofs only [ev, ↓reduceIte, Nat.reduceAdd, Nat.reduceEqDiff, Nat.reduceLeDiff, reduceCtorEq]
        refine ⟨i + 1, by omega, by omega, wk_none ?_⟩
        rw [wrap64 (by omega) (by omega), wrap64 (by omega) (by omega)]
        simp only [wk, ↓reduceIte, Nat.reduceEqDiff, reduceCtorEq, Nat.reduceLT]
        simp [hsum]
        omega
    · simp -implicitDefEqProofs only [ev, ↓reduceIte, Nat.reduceAdd, Nat.reduceEqDiff, Nat.reduceLeDiff, reduceCtorEq]
      have hi' : i = ks.length := by simp at h; omega
      subst hi'
      refine fin_same (.one (by simp)) ?_
      simp [Hp.nil, Nd.size]

theorem f20_all (n : Nat) : ∀ (x : Nd), x.size ≤ n → x.size ≤ 4611686018427387904 → Ret prog 20 [.agg (x.cells.map .iv)] (.one (sct (.int .i64 x.size))) := by
  induction n with
  | zero => intro x hx; cases x; simp [Nd.size] at hx
  | succ n ih => intro x hx hb; exact f20_step (n + 1) (fun x h hb => ih x (by omega) hb) x hx hb
theorem f20_ok (x : Nd) (hb : x.size ≤ 4611686018427387904) : Ret prog 20 [.agg (x.cells.map .iv)] (.one (sct (.int .i64 x.size))) := f20_all _ x (Nat.le_refl _) hb

def imax (a b : Int) : Int := if b > a then b else a
theorem imax_def (a b : Int) : (if b > a then b else a) = imax a b := rfl

mutual
/-- The highest number of a group. -/
def Nd.groups : Nd → Int
  | .mk _ _ _ _ _ n ks => ndGroups (imax n 0) ks
def ndGroups (a : Int) : List Nd → Int
  | [] => a
  | x :: r => ndGroups (imax a (Nd.groups x)) r
end

theorem ndGroups_snoc : ∀ (l : List Nd) (a : Int) (x : Nd), ndGroups a (l ++ [x]) = imax (ndGroups a l) x.groups
  | [], a, x => by simp [ndGroups]
  | y :: r, a, x => by simp only [List.cons_append, ndGroups]; exact ndGroups_snoc r _ x

theorem f22_step (n : Nat) (ih : ∀ (x : Nd), x.size < n → Ret prog 22 [.agg (x.cells.map .iv)] (.one (sct (.int .i64 x.groups)))) (x : Nd) (hn : x.size ≤ n) :
    Ret prog 22 [.agg (x.cells.map .iv)] (.one (sct (.int .i64 x.groups))) := by
  cases x with
  | mk k c a b z m ks =>
  simp only [Nd.size] at hn
  refine .of r22_ok (by simp [Nd.cells, clsIV]) (.one (by simp)) (by simp [r22]) ?_
  simp only [oo, on, og, om, ol, oh, zN, ci, r22, initTm, Nat.reduceAdd, Nd.cells, List.map_cons, List.map_nil, ndRows_eq]
  simp -implicitDefEqProofs only [ev, ↓reduceIte, Nat.reduceAdd, Nat.reduceEqDiff, Nat.reduceLeDiff, reduceCtorEq]
  refine .mk fun h1 => ?_
  simp -implicitDefEqProofs only [ev, ↓reduceIte, Nat.reduceAdd, Nat.reduceEqDiff, Nat.reduceLeDiff, reduceCtorEq, awp_loop]
  refine aloop_mk (σ := Nat) (fun i => [(10, .one (.iv (.sl 7 (ks.map Nd.cells)))), (11, .one (sct (.int .i64 ks.length))), (12, .one (sct (.int .i64 i))), (3, .one (sct (.int .i64 (ndGroups (imax m 0) (ks.take i)))))])
    (fun _ => Hp.nil) (fun i => i ≤ ks.length) (fun i => ks.length - i) 0 (by simp) (wk_none ?_) ?_
  · simp only [wk, ↓reduceIte, Nat.reduceEqDiff, reduceCtorEq, Nat.reduceLT, imax_def]
    simp [ndGroups]
  · intro i hi
    simp only [oo, on, og, om, ol, oh, zN, ci, r22_l0]
    simp -implicitDefEqProofs only [ev, ↓reduceIte, Nat.reduceAdd, Nat.reduceEqDiff, Nat.reduceLeDiff, reduceCtorEq]
    refine .mk (fun h => ?_) (fun h => ?_)
    · have hlt : i < ks.length := by simpa using h
      have hx := List.getElem?_eq_getElem hlt
      have hs := ndSize_mem (List.getElem_mem hlt)
      have hr := ih ks[i] (by omega)
      have hsn : ks.take (i + 1) = ks.take i ++ [ks[i]] := by rw [List.take_add_one, hx]; rfl
      cases hxe : ks[i] with
      | mk k' c' a' b' z' m' ks' =>
        rw [hxe] at hr hs hsn
        simp only [Nd.cells, List.map_cons, List.map_nil] at hr
        simp -implicitDefEqProofs only [ev, ↓reduceIte, Nat.reduceAdd, Nat.reduceEqDiff, Nat.reduceLeDiff, reduceCtorEq, List.getElem?_map, hx, hxe, Nd.cells, Int.natCast_nonneg]
        refine acall_ret hr ?_
        simp -implicitDefEqProofs only [ev, ↓reduceIte, Nat.reduceAdd, Nat.reduceEqDiff, Nat.reduceLeDiff, reduceCtorEq]
        refine ⟨i + 1, by omega, by omega, wk_none ?_⟩
        rw [wrap64 (by omega) (by omega)]
        simp only [wk, ↓reduceIte, Nat.reduceEqDiff, reduceCtorEq, Nat.reduceLT, imax_def]
        simp [hsn, ndGroups_snoc]
    · simp -implicitDefEqProofs only [ev, ↓reduceIte, Nat.reduceAdd, Nat.reduceEqDiff, Nat.reduceLeDiff, reduceCtorEq]
      have hi' : i = ks.length := by simp at h; omega
      subst hi'
      refine fin_same (.one (by simp)) ?_
      simp [Hp.nil, Nd.groups]

theorem f22_all (n : Nat) : ∀ (x : Nd), x.size ≤ n → Ret prog 22 [.agg (x.cells.map .iv)] (.one (sct (.int .i64 x.groups))) := by
  induction n with
  | zero => intro x hx; cases x; simp [Nd.size] at hx
  | succ n ih => intro x hx; exact f22_step (n + 1) (fun x h => ih x (by omega)) x hx
theorem f22_ok (x : Nd) : Ret prog 22 [.agg (x.cells.map .iv)] (.one (sct (.int .i64 x.groups))) := f22_all _ x (Nat.le_refl _)
end Go.Av

namespace Go.Av
open Go.RowKit Go.Proofs.Tryz

def Rg.may (r : Rg) : Bool := decide (r.lo ≥ 0) && (decide (r.hi ≤ 1114111) && decide (r.lo ≤ r.hi))

theorem f65_ok (r : Rg) : Ret prog 65 [.agg (r.cells.map .iv)] (.one (sct (.bool r.may))) := by
  refine .of r65_ok (by simp [Rg.cells]) (.one (by simp)) (by simp [r65]) ?_
  simp only [oo, on, og, om, ol, oh, zN, ci, r65, initTm, Nat.reduceAdd, Rg.cells, List.map_cons, List.map_nil, Rg.may]
  simp -implicitDefEqProofs only [ev, ↓reduceIte, Nat.reduceAdd, Nat.reduceEqDiff, Nat.reduceLeDiff, reduceCtorEq]
  have done : ∀ (q : Bool) (hp : Hp), Fin 0 (fun ae hp => ae = AE.ret (LV.one (AV.iv (IV.sc (Value.bool q)))) ∧ hp = { bs := [], nxt := 0 }) (LV.one (AV.iv (IV.sc (Value.bool q)))) hp := fun q hp => fin_same (.one (by simp)) ⟨rfl, rfl⟩
  refine .mk (fun h => ?_) (fun h => ?_)
  · simp -implicitDefEqProofs only [ev, ↓reduceIte, Nat.reduceAdd, Nat.reduceEqDiff, Nat.reduceLeDiff, reduceCtorEq, h]
    refine .mk (fun h2 => ?_) (fun h2 => ?_)
    · simp -implicitDefEqProofs only [ev, ↓reduceIte, Nat.reduceAdd, Nat.reduceEqDiff, Nat.reduceLeDiff, reduceCtorEq, h2]
      exact done _ _
    · simp -implicitDefEqProofs only [ev, ↓reduceIte, Nat.reduceAdd, Nat.reduceEqDiff, Nat.reduceLeDiff, reduceCtorEq, h2, Bool.false_and]
      exact done _ _
  · simp -implicitDefEqProofs only [ev, ↓reduceIte, Nat.reduceAdd, Nat.reduceEqDiff, Nat.reduceLeDiff, reduceCtorEq, h, Bool.false_and]
    exact done _ _

theorem f64_ok (g : FuncId) (l : List Nd) (E : Nd → Bool) (hB : HasB prog g) (hg : ∀ x ∈ l, Ret prog g [.agg (x.cells.map .iv)] (.one (sct (.bool (E x))))) :
    Ret prog 64 [.one (.iv (.sl 7 (ndRows l))), .one (.iv (.sc (.func (.func g) #[] #[])))] (.one (sct (.int .i64 (match l.findIdx? E with
      | some i => (i : Int)
      | none => -1)))) := by
  refine .of r64_ok (by simp) (.one (by simp)) (by simp [r64]) ?_
  simp only [oo, on, og, om, ol, oh, zN, ci, r64, initTm, Nat.reduceAdd, ndRows_eq]
  simp -implicitDefEqProofs only [ev, ↓reduceIte, Nat.reduceAdd, Nat.reduceEqDiff, Nat.reduceLeDiff, reduceCtorEq]
  refine .mk fun h1 => ?_
  simp -implicitDefEqProofs only [ev, ↓reduceIte, Nat.reduceAdd, Nat.reduceEqDiff, Nat.reduceLeDiff, reduceCtorEq, awp_loop]
  refine aloop_mk (σ := Nat) (fun i => [(7, .one (sct (.int .i64 l.length))), (8, .one (sct (.int .i64 i))), (0, .one (.iv (.sl 7 (l.map Nd.cells)))), (1, .one (.iv (.sc (.func (.func g) #[] #[]))))])
    (fun _ => Hp.nil) (fun i => i ≤ l.length ∧ ∀ j x, j < i → l[j]? = some x → E x = false) (fun i => l.length - i) 0 (by simp) (wk_none ?_) ?_
  · simp only [wk, ↓reduceIte, Nat.reduceEqDiff, reduceCtorEq, Nat.reduceLT]
    simp
  · rintro i ⟨hi, hE⟩
    simp only [oo, on, og, om, ol, oh, zN, ci, r64_l0]
    simp -implicitDefEqProofs only [ev, ↓reduceIte, Nat.reduceAdd, Nat.reduceEqDiff, Nat.reduceLeDiff, reduceCtorEq]
    refine .mk (fun h => ?_) (fun h => ?_)
    · have hlt : i < l.length := by simpa using h
      have hx := List.getElem?_eq_getElem hlt
      have hr := hg l[i] (List.getElem_mem hlt)
      cases hxe : l[i] with
      | mk k' c' a' b' z' m' ks' =>
        rw [hxe] at hr hx
        simp only [Nd.cells, List.map_cons, List.map_nil] at hr
        simp -implicitDefEqProofs only [ev, ↓reduceIte, Nat.reduceAdd, Nat.reduceEqDiff, Nat.reduceLeDiff, reduceCtorEq, List.getElem?_map, hx, Nd.cells, Int.natCast_nonneg]
        refine ⟨hB, acall_ret hr ?_⟩
        simp -implicitDefEqProofs only [ev, ↓reduceIte, Nat.reduceAdd, Nat.reduceEqDiff, Nat.reduceLeDiff, reduceCtorEq]
        refine .mk (fun hq => ?_) (fun hq => ?_)
        · simp -implicitDefEqProofs only [ev, ↓reduceIte, Nat.reduceAdd, Nat.reduceEqDiff, Nat.reduceLeDiff, reduceCtorEq]
          refine fin_same (.one (by simp)) ?_
          have : l.findIdx? E = some i := by
            rw [List.findIdx?_eq_some_iff_getElem]
            refine ⟨hlt, by rw [hxe]; exact hq, fun j hj => ?_⟩
            have := hE j l[j] hj (List.getElem?_eq_getElem (by omega))
            simp [this]
          simp [Hp.nil, this]
        · simp -implicitDefEqProofs only [ev, ↓reduceIte, Nat.reduceAdd, Nat.reduceEqDiff, Nat.reduceLeDiff, reduceCtorEq]
          refine ⟨i + 1, ⟨by omega, fun j x hj hxj => ?_⟩, by omega, wk_none ?_⟩
          · rcases Nat.lt_or_ge j i with hj' | hj'
            · exact hE j x hj' hxj
            · have : j = i := by omega
              subst this
              rw [hx] at hxj
              simp only [Option.some.injEq] at hxj
              subst hxj
              exact hq
          · rw [wrap64 (by omega) (by omega)]
            simp only [wk, ↓reduceIte, Nat.reduceEqDiff, reduceCtorEq, Nat.reduceLT]
            simp
    · simp -implicitDefEqProofs only [ev, ↓reduceIte, Nat.reduceAdd, Nat.reduceEqDiff, Nat.reduceLeDiff, reduceCtorEq]
      have hi' : i = l.length := by simp at h; omega
      refine fin_same (.one (by simp)) ?_
      have : l.findIdx? E = none := by
        rw [List.findIdx?_eq_none_iff]
        intro x hx
        obtain ⟨j, hj, rfl⟩ := List.mem_iff_getElem.1 hx
        exact hE j _ (by omega) (List.getElem?_eq_getElem hj)
      simp [Hp.nil, this]

theorem f41_ok (g : FuncId) (l : List Nd) (E : Nd → Bool) (hB : HasB prog g) (hg : ∀ x ∈ l, Ret prog g [.agg (x.cells.map .iv)] (.one (sct (.bool (E x))))) :
    Ret prog 41 [.one (.iv (.sl 7 (ndRows l))), .one (.iv (.sc (.func (.func g) #[] #[])))] (.one (sct (.bool (l.any E)))) := by
  refine .of r41_ok (by simp) (.one (by simp)) (by simp [r41]) ?_
  simp only [oo, on, og, om, ol, oh, zN, ci, r41, initTm, Nat.reduceAdd]
  simp -implicitDefEqProofs only [ev, ↓reduceIte, Nat.reduceAdd, Nat.reduceEqDiff, Nat.reduceLeDiff, reduceCtorEq]
  refine acall_ret (f64_ok g l E hB hg) ?_
  simp -implicitDefEqProofs only [ev, ↓reduceIte, Nat.reduceAdd, Nat.reduceEqDiff, Nat.reduceLeDiff, reduceCtorEq]
  refine fin_same (.one (by simp)) ?_
  cases hf : l.findIdx? E with
  | none =>
    rw [List.findIdx?_eq_none_iff] at hf
    have : l.any E = false := by simpa using hf
    simp [Hp.nil, this]
  | some i =>
    rw [List.findIdx?_eq_some_iff_getElem] at hf
    obtain ⟨h1, h2, _⟩ := hf
    have : l.any E = true := by
      rw [List.any_eq_true]; exact ⟨_, List.getElem_mem h1, h2⟩
    simp [Hp.nil, this]

theorem wrap32 {n : Int} (h0 : -2147483648 ≤ n) (h : n ≤ 2147483647) : IntKind.i32.wrap n = n := by
  rw [IntKind.wrap_i32]; omega

/-- Where a range may stand: it may be, and it does not touch the one ahead. -/
def gapOK (c : Cls) (k : Nat) : Bool := match c[k]? with
  | some r => r.may && (k == 0 || match c[k - 1]? with
    | some q => !(decide (r.lo ≤ q.hi + 1))
    | none => true)
  | none => true
def clsRight (c : Cls) : Bool := (List.range c.length).all (gapOK c) && decide ((c.length : Int) ≤ 64)

theorem f43_ok (c : Cls) : Ret prog 43 [.one (.iv (clsIV c))] (.one (sct (.bool (clsRight c)))) := by
  refine .of r43_ok (by simp) (.one (by simp)) (by simp [r43]) ?_
  simp only [oo, on, og, om, ol, oh, zN, ci, r43, initTm, Nat.reduceAdd, clsIV]
  simp -implicitDefEqProofs only [ev, ↓reduceIte, Nat.reduceAdd, Nat.reduceEqDiff, Nat.reduceLeDiff, reduceCtorEq]
  refine .mk fun h1 => ?_
  simp -implicitDefEqProofs only [ev, ↓reduceIte, Nat.reduceAdd, Nat.reduceEqDiff, Nat.reduceLeDiff, reduceCtorEq, awp_loop]
  have bad : ∀ (i : Nat) (hp : Hp), i < c.length → gapOK c i = false → Fin 0 (fun ae hp => ae = AE.ret (LV.one (AV.iv (IV.sc (Value.bool (clsRight c))))) ∧ hp = { bs := [], nxt := 0 }) (LV.one (AV.iv (IV.sc (Value.bool false)))) hp := by
    intro i hp hi hg
    have : clsRight c = false := by
      rw [clsRight, List.all_eq_false.2 ⟨i, by simpa using hi, by simpa using hg⟩]; rfl
    rw [this]
    exact fin_same (.one (by simp)) ⟨rfl, rfl⟩
  refine aloop_mk (σ := Nat) (fun i => [(0, .one (.iv (.sl 2 (c.map Rg.cells)))), (5, .one (.iv (.sl 2 (c.map Rg.cells)))), (6, .one (sct (.int .i64 c.length))), (7, .one (sct (.int .i64 i)))])
    (fun _ => Hp.nil) (fun i => i ≤ c.length ∧ ∀ j, j < i → gapOK c j = true) (fun i => c.length - i) 0 (by simp) (wk_none ?_) ?_
  · simp only [wk, ↓reduceIte, Nat.reduceEqDiff, reduceCtorEq, Nat.reduceLT]
    simp
  · rintro i ⟨hi, hE⟩
    simp only [oo, on, og, om, ol, oh, zN, ci, r43_l0]
    simp -implicitDefEqProofs only [ev, ↓reduceIte, Nat.reduceAdd, Nat.reduceEqDiff, Nat.reduceLeDiff, reduceCtorEq]
    refine .mk (fun h => ?_) (fun h => ?_)
    · have hlt : i < c.length := by simpa using h
      have hx := List.getElem?_eq_getElem hlt
      have hr := f65_ok c[i]
      have hgi : gapOK c i = (c[i].may && (i == 0 || match c[i - 1]? with
        | some q => !(decide (c[i].lo ≤ q.hi + 1))
        | none => true)) := by simp only [gapOK, hx]
      have next : gapOK c i = true → ∀ (tm : Tm), tm.get 0 = some (.one (.iv (.sl 2 (c.map Rg.cells)))) → tm.get 5 = some (.one (.iv (.sl 2 (c.map Rg.cells)))) → tm.get 6 = some (.one (.iv (.sc (.int .i64 c.length)))) → tm.get 7 = some (.one (.iv (.sc (.int .i64 (i + 1 : Int))))) → ∀ hp : Hp,
          ∃ s' : Nat, (s' ≤ c.length ∧ ∀ j, j < s' → gapOK c j = true) ∧ c.length - s' < c.length - i ∧ Wk 0 tm hp [(0, .one (.iv (.sl 2 (c.map Rg.cells)))), (5, .one (.iv (.sl 2 (c.map Rg.cells)))), (6, .one (.iv (.sc (.int .i64 c.length)))), (7, .one (.iv (.sc (.int .i64 s'))))] Hp.nil := by
        intro hg tm g0 g5 g6 g7 hp
        refine ⟨i + 1, ⟨by omega, fun j hj => ?_⟩, by omega, wk_none ?_⟩
        · rcases Nat.lt_or_ge j i with hj' | hj'
          · exact hE j hj'
          · have : j = i := by omega
            subst this; exact hg
        · simp only [WkEq, g0, g5, g6, g7]
          simp
      cases hxe : c[i] with
      | mk lo hi' =>
        rw [hxe] at hr hx hgi
        simp only [Rg.cells, List.map_cons, List.map_nil] at hr
        simp -implicitDefEqProofs only [ev, ↓reduceIte, Nat.reduceAdd, Nat.reduceEqDiff, Nat.reduceLeDiff, reduceCtorEq, List.getElem?_map, hx, Rg.cells, Int.natCast_nonneg]
        refine dcall_ret hr ?_
        cases hm : (Rg.mk lo hi').may with
        | false =>
          simp -implicitDefEqProofs only [ev, ↓reduceIte, Nat.reduceAdd, Nat.reduceEqDiff, Nat.reduceLeDiff, reduceCtorEq, hm]
          exact bad i _ hlt (by rw [hgi, hm]; rfl)
        | true =>
          rcases Nat.eq_zero_or_pos i with h0 | h0
          · have hk : decide ((i : Int) > 0) = false := by simp; omega
            simp -implicitDefEqProofs only [ev, ↓reduceIte, Nat.reduceAdd, Nat.reduceEqDiff, Nat.reduceLeDiff, reduceCtorEq, hm, hk]
            refine next (by rw [hgi, hm]; simp [h0]) _ rfl rfl rfl ?_ _
            rw [wrap64 (by omega) (by omega)]
            rfl
          · have hk : decide ((i : Int) > 0) = true := by simp; omega
            have hlt2 : i - 1 < c.length := by omega
            have hx2 := List.getElem?_eq_getElem hlt2
            have hw : IntKind.i64.wrap ((i : Int) - 1) = ((i - 1 : Nat) : Int) := by rw [wrap64 (by omega) (by omega)]; omega
            have hprev := hE (i - 1) (by omega)
            cases hxe2 : c[i - 1] with
            | mk lo2 hi2 =>
              rw [hxe2] at hx2
              have hmay2 : (Rg.mk lo2 hi2).may = true := by
                simp only [gapOK, hx2, Bool.and_eq_true] at hprev
                exact hprev.1
              have hb2 : 0 ≤ hi2 ∧ hi2 ≤ 1114111 := by
                simp [Rg.may] at hmay2; omega
              have hlt3 : ((i - 1 : Nat) : Int) < (c.length : Int) := by omega
              simp -implicitDefEqProofs only [ev, ↓reduceIte, Nat.reduceAdd, Nat.reduceEqDiff, Nat.reduceLeDiff, reduceCtorEq, hm, hk, hw, Int.natCast_nonneg, List.getElem?_map, hx2, Rg.cells]
              rw [wrap32 (by omega) (by omega)]
              refine .mk (fun hq => ?_) (fun hq => ?_)
              · simp -implicitDefEqProofs only [ev, ↓reduceIte, Nat.reduceAdd, Nat.reduceEqDiff, Nat.reduceLeDiff, reduceCtorEq]
                exact bad i _ hlt (by rw [hgi, hm, hx2]; simp at hq; simp [hq]; omega)
              · simp -implicitDefEqProofs only [ev, ↓reduceIte, Nat.reduceAdd, Nat.reduceEqDiff, Nat.reduceLeDiff, reduceCtorEq]
                refine next (by rw [hgi, hm, hx2]; simp at hq; simp; omega) _ rfl rfl rfl ?_ _
                rw [wrap64 (by omega) (by omega)]
                rfl
    · simp -implicitDefEqProofs only [ev, ↓reduceIte, Nat.reduceAdd, Nat.reduceEqDiff, Nat.reduceLeDiff, reduceCtorEq]
      have hi' : i = c.length := by simp at h; omega
      refine .mk fun _ => ?_
      simp -implicitDefEqProofs only [ev, ↓reduceIte, Nat.reduceAdd, Nat.reduceEqDiff, Nat.reduceLeDiff, reduceCtorEq]
      refine fin_same (.one (by simp)) ?_
      have : (List.range c.length).all (gapOK c) = true := by
        rw [List.all_eq_true]
        intro j hj
        exact hE j (by simp at hj; omega)
      simp [Hp.nil, clsRight, this]
end Go.Av

namespace Go.Av
open Go.RowKit Go.Proofs.Tryz

/-- What syntax.Right asks of a node but for its kids. -/
def rightHere (k : Int) (c : Cls) (a b : Int) (z : Bool) (m : Int) (n : Nat) : Bool :=
  clsRight c && ((k == 1) == decide ((c.length : Int) > 0)) &&
    (let plain := a == 0 && (b == 0 && !z)
     if k == 0 || k == 1 || k == 2 || k == 3 || k == 4 || k == 5 then plain && (m == 0 && ((n : Int) == 0))
     else if k == 6 || k == 7 then plain && (m == 0 && decide ((n : Int) > 1))
     else if k == 8 then m == 0 && ((n : Int) == 1 && (decide (a ≥ 0) && (decide (a ≤ 20) && (b == -1 || (decide (b ≥ a) && decide (b ≤ 20))))))
     else if k == 9 then plain && ((n : Int) == 1 && (decide (m > 0) && decide (m ≤ 8)))
     else false)

mutual
def Nd.right : Nd → Bool
  | .mk k c a b z m ks => ndRight ks && rightHere k c a b z m ks.length
def ndRight : List Nd → Bool
  | [] => true
  | x :: r => Nd.right x && ndRight r
end
theorem ndRight_eq : ∀ l, (l.any fun x => !x.right) = !ndRight l
  | [] => rfl
  | x :: r => by simp only [List.any_cons, ndRight, ndRight_eq r]; cases x.right <;> simp

theorem f42_of (x : Nd) (h : Ret prog 18 [.agg (x.cells.map .iv)] (.one (sct (.bool x.right)))) : Ret prog 42 [.agg (x.cells.map .iv)] (.one (sct (.bool (!x.right)))) := by
  cases x with
  | mk k c a b z m ks =>
  simp only [Nd.cells, List.map_cons, List.map_nil] at h ⊢
  refine .of r42_ok h.low (.one (by simp)) (by simp [r42]) ?_
  simp only [oo, on, og, om, ol, oh, zN, ci, r42, initTm, Nat.reduceAdd]
  simp -implicitDefEqProofs only [ev, ↓reduceIte, Nat.reduceAdd, Nat.reduceEqDiff, Nat.reduceLeDiff, reduceCtorEq]
  refine acall_ret h ?_
  simp -implicitDefEqProofs only [ev, ↓reduceIte, Nat.reduceAdd, Nat.reduceEqDiff, Nat.reduceLeDiff, reduceCtorEq]
  exact fin_same (.one (by simp)) ⟨rfl, rfl⟩

theorem hasB42 : HasB prog 42 := hasBb_ok (by kernel_rfl)

set_option maxHeartbeats 4000000 in
theorem f18_step (n : Nat) (ih : ∀ (x : Nd), x.size < n → Ret prog 18 [.agg (x.cells.map .iv)] (.one (sct (.bool x.right)))) (x : Nd) (hn : x.size ≤ n) :
    Ret prog 18 [.agg (x.cells.map .iv)] (.one (sct (.bool x.right))) := by
  cases x with
  | mk k c a b z m ks =>
  have hcls := f43_ok c
  have hk := f41_ok 42 ks (fun x => !x.right) hasB42 (fun x hx => f42_of x (ih x (by
    have := ndSize_mem hx
    simp only [Nd.size] at hn; omega)))
  rw [ndRight_eq] at hk
  simp only [clsIV] at hcls
  refine .of r18_ok (by simp [Nd.cells, clsIV]) (.one (by simp)) (by simp [r18]) ?_
  simp only [oo, on, og, om, ol, oh, zN, ci, r18, initTm, Nat.reduceAdd, Nd.cells, List.map_cons, List.map_nil, clsIV]
  have done : ∀ (q q' : Bool) (hp : Hp), q = q' → Fin 0 (fun ae hp => ae = AE.ret (LV.one (AV.iv (IV.sc (Value.bool q')))) ∧ hp = { bs := [], nxt := 0 }) (LV.one (AV.iv (IV.sc (Value.bool q)))) hp := fun q q' hp e => by subst e; exact fin_same (.one (by simp)) ⟨rfl, rfl⟩
  simp -implicitDefEqProofs only [ev, ↓reduceIte, Nat.reduceAdd, Nat.reduceEqDiff, Nat.reduceLeDiff, reduceCtorEq]
  refine acall_ret hk ?_
  cases hr : ndRight ks with
  | false =>
    simp -implicitDefEqProofs only [ev, ↓reduceIte, Nat.reduceAdd, Nat.reduceEqDiff, Nat.reduceLeDiff, reduceCtorEq]
    exact done _ _ _ (by simp [Nd.right, hr])
  | true =>
    simp -implicitDefEqProofs only [ev, ↓reduceIte, Nat.reduceAdd, Nat.reduceEqDiff, Nat.reduceLeDiff, reduceCtorEq]
    refine acall_ret hcls ?_
    cases hc : clsRight c with
    | false =>
      simp -implicitDefEqProofs only [ev, ↓reduceIte, Nat.reduceAdd, Nat.reduceEqDiff, Nat.reduceLeDiff, reduceCtorEq]
      exact done _ _ _ (by simp [Nd.right, rightHere, hc])
    | true =>
      simp -implicitDefEqProofs only [ev, ↓reduceIte, Nat.reduceAdd, Nat.reduceEqDiff, Nat.reduceLeDiff, reduceCtorEq]
      refine .mk fun hcl => ?_
      simp -implicitDefEqProofs only [ev, ↓reduceIte, Nat.reduceAdd, Nat.reduceEqDiff, Nat.reduceLeDiff, reduceCtorEq]
      refine .mk (fun h0 => ?_) (fun h0 => ?_)
      · simp -implicitDefEqProofs only [ev, ↓reduceIte, Nat.reduceAdd, Nat.reduceEqDiff, Nat.reduceLeDiff, reduceCtorEq, h0]
        exact done _ _ _ (by simp [Nd.right, rightHere, hr, hc]; intro h; simp [h] at h0)
      · have h0' : ((k == 1) == decide ((c.length : Int) > 0)) = true := by
          cases h1 : (k == 1) <;> cases h2 : decide ((c.length : Int) > 0) <;> simp_all
        have fin2 : (Nd.mk k c a b z m ks).right = (let plain := a == 0 && (b == 0 && !z)
     if k == 0 || k == 1 || k == 2 || k == 3 || k == 4 || k == 5 then plain && (m == 0 && (((ks.length : Nat) : Int) == 0))
     else if k == 6 || k == 7 then plain && (m == 0 && decide (((ks.length : Nat) : Int) > 1))
     else if k == 8 then m == 0 && (((ks.length : Nat) : Int) == 1 && (decide (a ≥ 0) && (decide (a ≤ 20) && (b == -1 || (decide (b ≥ a) && decide (b ≤ 20))))))
     else if k == 9 then plain && (((ks.length : Nat) : Int) == 1 && (decide (m > 0) && decide (m ≤ 8)))
     else false) := by
          simp only [Nd.right, hr, rightHere, hc, h0', Bool.true_and]
        rw [fin2]
        clear fin2 h0' hk hcls ih
        simp -implicitDefEqProofs only [ev, ↓reduceIte, Nat.reduceAdd, Nat.reduceEqDiff, Nat.reduceLeDiff, reduceCtorEq, h0, ndRows_eq]
        repeat' (first
          | exact done _ _ _ (by simp_all)
          | (refine brkT.mk (fun h => ?_) (fun h => ?_) <;> simp -implicitDefEqProofs only [ev, ↓reduceIte, Nat.reduceAdd, Nat.reduceEqDiff, Nat.reduceLeDiff, reduceCtorEq, h])
          | (refine grantT.mk fun h => ?_
             simp -implicitDefEqProofs only [ev, ↓reduceIte, Nat.reduceAdd, Nat.reduceEqDiff, Nat.reduceLeDiff, reduceCtorEq, h, List.length_map]))

theorem f18_all (n : Nat) : ∀ (x : Nd), x.size ≤ n → Ret prog 18 [.agg (x.cells.map .iv)] (.one (sct (.bool x.right))) := by
  induction n with
  | zero => intro x hx; cases x; simp [Nd.size] at hx
  | succ n ih => intro x hx; exact f18_step (n + 1) (fun x h => ih x (by omega)) x hx
theorem f18_ok (x : Nd) : Ret prog 18 [.agg (x.cells.map .iv)] (.one (sct (.bool x.right))) := f18_all _ x (Nat.le_refl _)
end Go.Av

namespace Go.Av
open Go.RowKit Go.Proofs.Tryz

/-- A function of values alone that may panic, out of its body. -/
theorem RetP.of {P : Program} {f : FuncId} {imm : Nat → Bool} {r : RF} (hr : rsvF P f imm = some r) {args : List LV} {ae : AE} (hl : ∀ x ∈ args, LLow 0 x) (hlv : ∀ lv, ae = .ret lv → LLowR 0 lv) (hn : args.length ≤ r.n)
    (h : awp P 0 r.body (body P r.rs 0 (fun a hp => a = ae ∧ hp = Hp.nil)) (initTm 0 args) Hp.nil) : RetP P f args ae :=
  ⟨calls_of_rsv hr hn h, hl, hlv⟩

def errAt (code at_ : Int) : Value := .iface 60 (.agg #[.int .i64 code, .int .i64 at_])

theorem f30_ok (ok : Bool) (n : Int) : RetP prog 30 [.one (sct (.bool ok)), .one (sct (.int .i64 n))] (if ok then .ret (.tup []) else .pan (errAt 2 n)) := by
  refine .of r30_ok (by simp) (fun lv h => by
    cases ok with
    | true => simp at h; subst h; exact .tup _ (by simp)
    | false => simp at h) (by simp [r30]) ?_
  simp only [oo, on, og, om, ol, oh, zN, ci, r30, initTm, Nat.reduceAdd]
  cases ok with
  | true =>
    simp -implicitDefEqProofs only [ev, ↓reduceIte, Nat.reduceAdd, Nat.reduceEqDiff, Nat.reduceLeDiff, reduceCtorEq]
    exact fin_same (.tup _ (by simp)) ⟨rfl, rfl⟩
  | false =>
    simp -implicitDefEqProofs only [ev, ↓reduceIte, Nat.reduceAdd, Nat.reduceEqDiff, Nat.reduceLeDiff, reduceCtorEq]
    exact finp_same ⟨rfl, rfl⟩

/-- A rune of a pattern, and where it stands. -/
structure Ch where
  r : Int
  pos : Int
  deriving Inhabited
def Ch.cells (c : Ch) : List IV := [.sc (.int .i32 c.r), .sc (.int .i64 c.pos)]
/-- The parser's cells: the runes that are left, where the pattern ends, how many groups there are. -/
def prow (cs : List Ch) (n g : Int) : List AV := [.iv (.sl 2 (cs.map Ch.cells)), .iv (.sc (.int .i64 n)), .iv (.sc (.int .i64 g))]
def peekOf : List Ch → Int
  | [] => -1
  | c :: _ => c.r

theorem f48_ok (cs : List Ch) (n g : Int) : Meth prog 48 (prow cs n g) [] (fun ae row' => ae = .ret (.one (sct (.int .i32 (peekOf cs)))) ∧ row' = prow cs n g) := by
  refine .of r48_ok (by simp) (by simp [prow]) (by simp [prow]) (by simp [r48]) ?_
  simp only [oo, on, og, om, ol, oh, zN, ci, r48, initTm, Nat.reduceAdd, heap1, prow]
  simp -implicitDefEqProofs only [ev, ↓reduceIte, Nat.reduceAdd, Nat.reduceEqDiff, Nat.reduceLeDiff, reduceCtorEq]
  refine .mk fun h1 => ?_
  cases cs with
  | nil =>
    have hk0 : (((0 : Nat) : Int) == 0) = true := rfl
    simp -implicitDefEqProofs only [ev, ↓reduceIte, Nat.reduceAdd, Nat.reduceEqDiff, Nat.reduceLeDiff, reduceCtorEq, hk0]
    refine fin_meth (row' := prow [] n g) ?_ ?_ ?_ (.one (.iv _)) ?_ ?_
    · exact Nat.zero_lt_one
    · rfl
    · rfl
    · simp [prow]
    · exact ⟨rfl, rfl⟩
  | cons c r =>
    have hk : (((r.length + 1 : Nat) : Int) == 0) = false := by rw [beq_eq_false_iff_ne]; omega
    simp -implicitDefEqProofs only [ev, ↓reduceIte, Nat.reduceAdd, Nat.reduceEqDiff, Nat.reduceLeDiff, reduceCtorEq, hk, Ch.cells, Int.toNat_zero]
    refine ⟨Int.le_refl _, ?_⟩
    refine fin_meth (row' := prow (c :: r) n g) ?_ ?_ ?_ (.one (.iv _)) ?_ ?_
    · exact Nat.zero_lt_one
    · rfl
    · rfl
    · simp [prow]
    · exact ⟨rfl, rfl⟩
def atOf (cs : List Ch) (n : Int) : Int := match cs with
  | [] => n
  | c :: _ => c.pos

theorem f31_ok (cs : List Ch) (n g : Int) : Meth prog 31 (prow cs n g) [] (fun ae row' => ae = .ret (.one (sct (.int .i64 (atOf cs n)))) ∧ row' = prow cs n g) := by
  refine .of r31_ok (by simp) (by simp [prow]) (by simp [prow]) (by simp [r31]) ?_
  simp only [oo, on, og, om, ol, oh, zN, ci, r31, initTm, Nat.reduceAdd, heap1, prow]
  simp -implicitDefEqProofs only [ev, ↓reduceIte, Nat.reduceAdd, Nat.reduceEqDiff, Nat.reduceLeDiff, reduceCtorEq]
  refine .mk fun h1 => ?_
  cases cs with
  | nil =>
    have hk0 : (((0 : Nat) : Int) == 0) = true := rfl
    simp -implicitDefEqProofs only [ev, ↓reduceIte, Nat.reduceAdd, Nat.reduceEqDiff, Nat.reduceLeDiff, reduceCtorEq, hk0]
    refine fin_meth (row' := prow [] n g) ?_ ?_ ?_ (.one (.iv _)) ?_ ?_
    · exact Nat.zero_lt_one
    · rfl
    · rfl
    · simp [prow]
    · exact ⟨rfl, rfl⟩
  | cons c r =>
    have hk : (((r.length + 1 : Nat) : Int) == 0) = false := by rw [beq_eq_false_iff_ne]; omega
    simp -implicitDefEqProofs only [ev, ↓reduceIte, Nat.reduceAdd, Nat.reduceEqDiff, Nat.reduceLeDiff, reduceCtorEq, hk, Ch.cells, Int.toNat_zero]
    refine ⟨Int.le_refl _, ?_⟩
    refine fin_meth (row' := prow (c :: r) n g) ?_ ?_ ?_ (.one (.iv _)) ?_ ?_
    · exact Nat.zero_lt_one
    · rfl
    · rfl
    · simp [prow]
    · exact ⟨rfl, rfl⟩
end Go.Av

namespace Go.Av
open Go.RowKit Go.Proofs.Tryz

theorem f90_ok (cs : List Ch) (n g : Int) : Meth prog 90 (prow cs n g) [] (fun ae row' => ae = .ret (.one (sct (.int .i32 (peekOf cs)))) ∧ row' = prow (cs.drop 1) n g) := by
  refine .of r90_ok (by simp) (by simp [prow]) (by simp [prow]) (by simp [r90]) ?_
  simp only [oo, on, og, om, ol, oh, zN, ci, r90, initTm, Nat.reduceAdd, heap1, prow]
  simp -implicitDefEqProofs only [ev, ↓reduceIte, Nat.reduceAdd, Nat.reduceEqDiff, Nat.reduceLeDiff, reduceCtorEq]
  refine acall_meth (row := prow cs n g) (f48_ok cs n g) Nat.zero_lt_one rfl ?_ (fun v h => by cases h.1)
  rintro lv row' hl ⟨hae, rfl⟩ hlow
  simp only [AE.ret.injEq] at hae
  subst hae
  simp only [prow, Bs.without]
  simp -implicitDefEqProofs only [ev, ↓reduceIte, Nat.reduceAdd, Nat.reduceEqDiff, Nat.reduceLeDiff, reduceCtorEq]
  have hd : List.drop (if 1 < (cs.length : Int) then (1 : Int) else (cs.length : Int)).toNat (List.take cs.length (List.map Ch.cells cs)) = (cs.drop 1).map Ch.cells := by
    rw [List.take_of_length_le (by simp)]
    split
    · simp
    · rename_i h
      have : cs.length ≤ 1 := by omega
      rcases cs with _ | ⟨x, _ | ⟨y, r⟩⟩
      · simp
      · simp
      · simp at this
  refine ⟨⟨by split <;> omega, by split <;> omega, Int.le_refl _⟩, ?_⟩
  rw [hd]
  refine fin_meth (row' := prow (cs.drop 1) n g) ?_ ?_ ?_ (.one (.iv _)) ?_ ?_
  · exact Nat.zero_lt_two
  · rfl
  · rfl
  · simp [prow]
  · exact ⟨rfl, rfl⟩
end Go.Av

namespace Go.Av
open Go.RowKit Go.Proofs.Tryz

/-- Letters that are eaten: what is left, if they stand there. -/
def eatOf : List Nat → List Ch → Option (List Ch)
  | [], cs => some cs
  | b :: r, c :: cs => if c.r = b then eatOf r cs else none
  | _ :: _, [] => none

theorem decode_ascii {s : ByteArray} {i : Nat} (h : (s.get! i).toNat < 128) : Utf8.decode s i = ((s.get! i).toNat, 1) := by
  simp [Utf8.decode, h]

def codes (s : ByteArray) : List Nat := (List.range s.size).map fun i => (s.get! i).toNat
def Ascii (s : ByteArray) : Prop := ∀ i, i < s.size → (s.get! i).toNat < 128

theorem codes_drop {s : ByteArray} {i : Nat} (h : i < s.size) : (codes s).drop i = (s.get! i).toNat :: (codes s).drop (i + 1) := by
  have hl : i < (codes s).length := by simpa [codes] using h
  rw [List.drop_eq_getElem_cons hl]
  simp [codes]

def eatQ (s : ByteArray) (cs : List Ch) (n g : Int) (ae : AE) (row' : List AV) : Prop := match eatOf (codes s) cs with
  | some r => ae = .ret (.one (sct (.bool true))) ∧ row' = prow r n g
  | none => ae = .ret (.one (sct (.bool false))) ∧ row' = prow cs n g

theorem f49_ok (s : ByteArray) (hs : Ascii s) (cs : List Ch) (n g : Int) : Meth prog 49 (prow cs n g) [.one (sct (.string s))] (eatQ s cs n g) := by
  refine .of r49_ok (by simp) (by simp [prow]) (by simp [prow]) (by simp [r49]) ?_
  simp only [oo, on, og, om, ol, oh, zN, ci, r49, initTm, Nat.reduceAdd, heap1, prow]
  simp -implicitDefEqProofs only [ev, ↓reduceIte, Nat.reduceAdd, Nat.reduceEqDiff, Nat.reduceLeDiff, reduceCtorEq, awp_loop]
  have bad : ∀ hp : Hp, 0 < hp.nxt → hp.bs.get 0 = some (.cells 3 0 [prow cs n g] false) → eatOf (codes s) cs = none → Fin 1 (MQ 3 (eatQ s cs n g)) (.one (.iv (.sc (.bool false)))) hp := by
    intro hp h1 h2 h3
    refine fin_meth (row' := prow cs n g) h1 h2 rfl (.one (.iv _)) (by simp [prow]) ?_
    simp only [eatQ, h3, sct, and_self]
  refine aloop_mk (σ := Nat × List Ch) (fun q => [(0, .one (.ptr 0 0 0 0)), (13, .one (.it 1)), (5, .one (.iv (.sl 2 (q.2.map Ch.cells))))])
    (fun q => ⟨[(0, .cells 3 0 [prow cs n g] false), (1, .iter s q.1)], 2⟩) (fun q => q.1 ≤ s.size ∧ eatOf (codes s) cs = eatOf ((codes s).drop q.1) q.2) (fun q => s.size - q.1) (0, cs) (by simp) (wk_keep' (by simp) (by simp) ?_ ?_ ?_) ?_
  · simp only [BsEq, Bs.get, prow, ↓reduceIte, Nat.reduceEqDiff, Nat.lt_add_one, Nat.zero_lt_succ, and_self]
  · simp [LowBs, Blk.lows, prow]
  · simp only [wk, ↓reduceIte, Nat.reduceEqDiff, reduceCtorEq, Nat.reduceLT]
  · rintro ⟨i, rest⟩ ⟨hi, hE⟩
    simp only at hi hE
    simp only [oo, on, og, om, ol, oh, zN, ci, r49_l0]
    rcases Nat.lt_or_ge i s.size with hlt | hge
    · have hcd := codes_drop hlt
      have hdec := decode_ascii (hs i hlt)
      cases rest with
      | nil =>
        have hk0 : (((0 : Nat) : Int) == 0) = true := rfl
        simp -implicitDefEqProofs only [ev, ↓reduceIte, Nat.reduceAdd, Nat.reduceEqDiff, Nat.reduceLeDiff, reduceCtorEq, hlt, hdec, hk0]
        refine bad _ (by simp) rfl ?_
        rw [hE, hcd]; rfl
      | cons c rest =>
        have hk : (((rest.length + 1 : Nat) : Int) == 0) = false := by rw [beq_eq_false_iff_ne]; omega
        simp -implicitDefEqProofs only [ev, ↓reduceIte, Nat.reduceAdd, Nat.reduceEqDiff, Nat.reduceLeDiff, reduceCtorEq, hlt, hdec, Ch.cells]
        refine .mk fun h1 => ?_
        simp -implicitDefEqProofs only [ev, ↓reduceIte, Nat.reduceAdd, Nat.reduceEqDiff, Nat.reduceLeDiff, reduceCtorEq, hk, Ch.cells]
        refine ⟨Int.le_refl _, ?_⟩
        refine .mk (fun hq => ?_) (fun hq => ?_)
        · simp -implicitDefEqProofs only [ev, ↓reduceIte, Nat.reduceAdd, Nat.reduceEqDiff, Nat.reduceLeDiff, reduceCtorEq, hq]
          refine bad _ (by simp) rfl ?_
          rw [hE, hcd]
          have hne : ¬ c.r = (s.get! i).toNat := by simpa using hq
          simp only [eatOf, hne, if_false]
        · simp -implicitDefEqProofs only [ev, ↓reduceIte, Nat.reduceAdd, Nat.reduceEqDiff, Nat.reduceLeDiff, reduceCtorEq, hq, Int.toNat_one]
          have heq : c.r = (s.get! i).toNat := by simpa using hq
          refine ⟨⟨by omega, by omega, Int.le_refl _⟩, (i + 1, rest), ⟨by omega, ?_⟩, by simp only; omega, wk_keep' (by simp) (by simp) ?_ ?_ ?_⟩
          · rw [hE, hcd]
            have : c.r = ((s.get! i).toNat : Int) := heq
            simp only [eatOf, this, if_true]
          · simp only [BsEq, Bs.get, prow, ↓reduceIte, Nat.reduceEqDiff, Nat.lt_add_one, Nat.zero_lt_succ, and_self]
          · simp [LowBs, Blk.lows, prow]
          · simp only [wk, ↓reduceIte, Nat.reduceEqDiff, reduceCtorEq, Nat.reduceLT]
            simp
            exact List.take_of_length_le (by simp)
    · have hno : ¬ i < s.size := by omega
      simp -implicitDefEqProofs only [ev, ↓reduceIte, Nat.reduceAdd, Nat.reduceEqDiff, Nat.reduceLeDiff, reduceCtorEq, hno]
      refine ⟨by simp [prow], ?_⟩
      have hn : (codes s).drop i = [] := by simp [codes]; omega
      rw [hn] at hE
      simp only [eatOf] at hE
      refine fin_meth (row' := prow rest n g) ?_ ?_ ?_ (.one (.iv _)) ?_ ?_
      · exact Nat.zero_lt_two
      · simp [Bs.get, prow]
      · rfl
      · simp [prow]
      · simp only [eatQ, hE, sct, and_self]
end Go.Av

namespace Go.Av
open Go.RowKit Go.Proofs.Tryz

/-- Does a rune stand in a text? -/
def hasR (s : ByteArray) (r : Int) : Bool := (codes s).any fun b => (b : Int) == r

theorem f95_ok (s : ByteArray) (hs : Ascii s) (r : Int) : Ret prog 95 [.one (sct (.string s)), .one (sct (.int .i32 r))] (.one (sct (.bool (hasR s r)))) := by
  refine .of r95_ok (by simp) (.one (by simp)) (by simp [r95]) ?_
  simp only [oo, on, og, om, ol, oh, zN, ci, r95, initTm, Nat.reduceAdd]
  simp -implicitDefEqProofs only [ev, ↓reduceIte, Nat.reduceAdd, Nat.reduceEqDiff, Nat.reduceLeDiff, reduceCtorEq, awp_loop]
  refine aloop_mk (σ := Nat) (fun i => [(1, .one (sct (.int .i32 r))), (8, .one (.it 0))])
    (fun i => ⟨[(0, .iter s i)], 1⟩) (fun i => i ≤ s.size ∧ hasR s r = ((codes s).drop i).any fun b => (b : Int) == r) (fun i => s.size - i) 0 (by simp [hasR]) (wk_keep' (by simp) (by simp) ?_ ?_ ?_) ?_
  · simp only [BsEq, Bs.get, ↓reduceIte, Nat.reduceEqDiff, Nat.lt_add_one, Nat.zero_lt_succ, and_self]
  · simp [LowBs, Blk.lows]
  · simp only [wk, ↓reduceIte, Nat.reduceEqDiff, reduceCtorEq, Nat.reduceLT]
  · rintro i ⟨hi, hE⟩
    simp only [oo, on, og, om, ol, oh, zN, ci, r95_l0]
    rcases Nat.lt_or_ge i s.size with hlt | hge
    · have hcd := codes_drop hlt
      have hdec := decode_ascii (hs i hlt)
      rw [hcd] at hE
      simp -implicitDefEqProofs only [ev, ↓reduceIte, Nat.reduceAdd, Nat.reduceEqDiff, Nat.reduceLeDiff, reduceCtorEq, hlt, hdec]
      refine .mk (fun hq => ?_) (fun hq => ?_)
      · simp -implicitDefEqProofs only [ev, ↓reduceIte, Nat.reduceAdd, Nat.reduceEqDiff, Nat.reduceLeDiff, reduceCtorEq]
        refine fin_same (.one (by simp)) ⟨?_, rfl⟩
        rw [hE]; simp [hq, sct]
      · simp -implicitDefEqProofs only [ev, ↓reduceIte, Nat.reduceAdd, Nat.reduceEqDiff, Nat.reduceLeDiff, reduceCtorEq]
        refine ⟨i + 1, ⟨by omega, ?_⟩, by omega, wk_keep' (by simp) (by simp) ?_ ?_ ?_⟩
        · rw [hE]; simp [hq]
        · simp only [BsEq, Bs.get, ↓reduceIte, Nat.reduceEqDiff, Nat.lt_add_one, Nat.zero_lt_succ, and_self]
        · simp [LowBs, Blk.lows]
        · simp only [wk, ↓reduceIte, Nat.reduceEqDiff, reduceCtorEq, Nat.reduceLT]
    · have hno : ¬ i < s.size := by omega
      simp -implicitDefEqProofs only [ev, ↓reduceIte, Nat.reduceAdd, Nat.reduceEqDiff, Nat.reduceLeDiff, reduceCtorEq, hno]
      refine fin_same (.one (by simp)) ⟨?_, rfl⟩
      have hn : (codes s).drop i = [] := by simp [codes]; omega
      rw [hE, hn]; simp [sct]

def isR (r : Int) (s : ByteArray) : Bool := decide (r ≥ 0) && hasR s r

theorem f74_ok (s : ByteArray) (hs : Ascii s) (r : Int) : Ret prog 74 [.one (sct (.int .i32 r)), .one (sct (.string s))] (.one (sct (.bool (isR r s)))) := by
  refine .of r74_ok (by simp) (.one (by simp)) (by simp [r74]) ?_
  simp only [oo, on, og, om, ol, oh, zN, ci, r74, initTm, Nat.reduceAdd]
  simp -implicitDefEqProofs only [ev, ↓reduceIte, Nat.reduceAdd, Nat.reduceEqDiff, Nat.reduceLeDiff, reduceCtorEq]
  refine .mk (fun h => ?_) (fun h => ?_)
  · simp -implicitDefEqProofs only [ev, ↓reduceIte, Nat.reduceAdd, Nat.reduceEqDiff, Nat.reduceLeDiff, reduceCtorEq, h]
    refine acall_ret (f95_ok s hs r) ?_
    simp -implicitDefEqProofs only [ev, ↓reduceIte, Nat.reduceAdd, Nat.reduceEqDiff, Nat.reduceLeDiff, reduceCtorEq]
    exact fin_same (.one (by simp)) ⟨by simp [isR, h, sct], rfl⟩
  · simp -implicitDefEqProofs only [ev, ↓reduceIte, Nat.reduceAdd, Nat.reduceEqDiff, Nat.reduceLeDiff, reduceCtorEq, h]
    exact fin_same (.one (by simp)) ⟨by simp [isR, h, sct], rfl⟩

theorem f73_ok (a b : Int) : Ret prog 73 [.one (sct (.int .i32 a)), .one (sct (.int .i32 b))] (.agg [sct (.int .i32 a), sct (.int .i32 b)]) := by
  refine .of r73_ok (by simp) (.agg (by simp)) (by simp [r73]) ?_
  simp only [oo, on, og, om, ol, oh, zN, ci, r73, initTm, Nat.reduceAdd]
  simp -implicitDefEqProofs only [ev, ↓reduceIte, Nat.reduceAdd, Nat.reduceEqDiff, Nat.reduceLeDiff, reduceCtorEq]
  exact fin_same (.agg (by simp)) ⟨rfl, rfl⟩

def hasPre (s p : ByteArray) : Bool := decide ((s.size : Int) ≥ p.size) && (s.extract 0 p.size).toList == p.toList

theorem f68_ok (s p : ByteArray) : Ret prog 68 [.one (sct (.string s)), .one (sct (.string p))] (.one (sct (.bool (hasPre s p)))) := by
  refine .of r68_ok (by simp) (.one (by simp)) (by simp [r68]) ?_
  simp only [oo, on, og, om, ol, oh, zN, ci, r68, initTm, Nat.reduceAdd]
  simp -implicitDefEqProofs only [ev, ↓reduceIte, Nat.reduceAdd, Nat.reduceEqDiff, Nat.reduceLeDiff, reduceCtorEq]
  refine .mk (fun h => ?_) (fun h => ?_)
  · simp -implicitDefEqProofs only [ev, ↓reduceIte, Nat.reduceAdd, Nat.reduceEqDiff, Nat.reduceLeDiff, reduceCtorEq, h]
    have h' : (p.size : Int) ≤ s.size := by simpa using h
    refine ⟨⟨Int.le_refl _, Int.natCast_nonneg _, h'⟩, ?_⟩
    refine fin_same (.one (by simp)) ⟨?_, rfl⟩
    simp only [hasPre, h, sct, Bool.true_and]
  · simp -implicitDefEqProofs only [ev, ↓reduceIte, Nat.reduceAdd, Nat.reduceEqDiff, Nat.reduceLeDiff, reduceCtorEq, h]
    refine fin_same (.one (by simp)) ⟨?_, rfl⟩
    simp only [hasPre, h, sct, Bool.false_and]

theorem f47_ok (s p : ByteArray) : Ret prog 47 [.one (sct (.string s)), .one (sct (.string p))] (.one (sct (.bool (hasPre s p)))) := by
  refine .of r47_ok (by simp) (.one (by simp)) (by simp [r47]) ?_
  simp only [oo, on, og, om, ol, oh, zN, ci, r47, initTm, Nat.reduceAdd]
  simp -implicitDefEqProofs only [ev, ↓reduceIte, Nat.reduceAdd, Nat.reduceEqDiff, Nat.reduceLeDiff, reduceCtorEq]
  refine acall_ret (f68_ok s p) ?_
  simp -implicitDefEqProofs only [ev, ↓reduceIte, Nat.reduceAdd, Nat.reduceEqDiff, Nat.reduceLeDiff, reduceCtorEq]
  exact fin_same (.one (by simp)) ⟨rfl, rfl⟩

/-- The rune at a place of a pattern: what is none stands as one below 0. -/
def chR (s : ByteArray) (i : Nat) : Int :=
  if ((Utf8.decode s i).1 : Int) == 65533 && !hasPre (s.extract i s.size) (Utf8.encode 65533) then -1 else (Utf8.decode s i).1

def charsF (s : ByteArray) : Nat → Nat → List Ch
  | 0, _ => []
  | n + 1, i => if i < s.size then ⟨chR s i, i⟩ :: charsF s n (i + (Utf8.decode s i).2) else []
def charsOf (s : ByteArray) : List Ch := charsF s (s.size + 1) 0
end Go.Av

namespace Go.Av
open Go.RowKit Go.Proofs.Tryz

theorem decode_width (s : ByteArray) {i : Nat} (h : i < s.size) : 0 < (Utf8.decode s i).2 ∧ i + (Utf8.decode s i).2 ≤ s.size := by
  simp only [Utf8.decode]
  repeat' split
  all_goals first
    | (refine ⟨by simp, ?_⟩; simp only; omega)
    | (rename_i h1 _; simp only [Bool.and_eq_true, decide_eq_true_eq] at h1; refine ⟨by simp, ?_⟩; simp only; omega)
    | (rename_i h1 _; simp only [Bool.and_eq_true, decide_eq_true_eq] at h1; refine ⟨by simp, ?_⟩; simp only; omega)

theorem charsF_more (s : ByteArray) : ∀ (n m i : Nat), s.size - i < n → s.size - i < m → charsF s n i = charsF s m i := by
  intro n
  induction n with
  | zero => intro m i h; omega
  | succ n ih =>
    intro m i hn hm
    cases m with
    | zero => omega
    | succ m =>
      simp only [charsF]
      split
      · rename_i h
        obtain ⟨w1, w2⟩ := decode_width s h
        rw [ih m _ (by omega) (by omega)]
      · rfl

theorem chars_at (s : ByteArray) {i : Nat} (h : i < s.size) : charsF s (s.size + 1) i = ⟨chR s i, i⟩ :: charsF s (s.size + 1) (i + (Utf8.decode s i).2) := by
  obtain ⟨w1, w2⟩ := decode_width s h
  rw [show charsF s (s.size + 1) i = if i < s.size then ⟨chR s i, i⟩ :: charsF s s.size (i + (Utf8.decode s i).2) else [] from rfl, if_pos h, charsF_more s s.size (s.size + 1) _ (by omega) (by omega)]

theorem f28_ok (s : ByteArray) (hb : s.size ≤ 1073741824) : Ret prog 28 [.one (sct (.string s))] (.one (.iv (.sl 2 ((charsOf s).map Ch.cells)))) := by
  refine .of r28_ok (by simp) (.one (by simp)) (by simp [r28]) ?_
  simp only [oo, on, og, om, ol, oh, zN, ci, r28, initTm, Nat.reduceAdd]
  simp -implicitDefEqProofs only [ev, ↓reduceIte, Nat.reduceAdd, Nat.reduceEqDiff, Nat.reduceLeDiff, reduceCtorEq, awp_loop]
  refine aloop_mk (σ := Nat × List Ch × Nat) (fun q => [(0, .one (sct (.string s))), (7, .one (.it 0)), (3, .one (.own 1 q.2.2 0 q.2.1.length))])
    (fun q => ⟨[(0, .iter s q.1), (1, .cells 2 q.2.2 (q.2.1.map fun c => c.cells.map .iv) false)], 2⟩)
    (fun q => q.1 ≤ s.size ∧ q.2.1.length ≤ q.1 ∧ charsOf s = q.2.1 ++ charsF s (s.size + 1) q.1) (fun q => s.size - q.1) (0, [], 0) ⟨by simp, by simp, rfl⟩ (wk_conv [] [2] (by simp) (by simp [Hp.prep, Hp.freeze, Hp.ghost, Hp.new]) (by simp) ?_ ?_ ?_) ?_
  · simp [BsEq, Hp.prep, Hp.freeze, Hp.ghost, Hp.new, Bs.freeze, Bs.get]
  · simp [LowBs, Blk.lows]
  · refine ⟨⟨by simp, _, rfl, .refl _⟩, ⟨by simp, _, rfl, .refl _⟩, ⟨by simp, _, rfl, .one (.nilOwn 1 0 2 [] false ?_ ?_)⟩, trivial⟩
    · simp [Hp.prep, Hp.freeze, Hp.ghost, Hp.new, Bs.freeze, Bs.get]
    · simp [Hp.prep, Hp.freeze, Hp.ghost, Hp.new]
  · rintro ⟨i, acc, ver⟩ ⟨hi, hl, hE⟩
    simp only at hi hl hE
    simp only [oo, on, og, om, ol, oh, zN, ci, r28_l0]
    rcases Nat.lt_or_ge i s.size with hlt | hge
    · rw [chars_at s hlt] at hE
      obtain ⟨w1, w2⟩ := decode_width s hlt
      simp -implicitDefEqProofs only [ev, ↓reduceIte, Nat.reduceAdd, Nat.reduceEqDiff, Nat.reduceLeDiff, reduceCtorEq, hlt]
      cases h1 : (((Utf8.decode s i).1 : Int) == 65533) with
      | true =>
        simp -implicitDefEqProofs only [ev, ↓reduceIte, Nat.reduceAdd, Nat.reduceEqDiff, Nat.reduceLeDiff, reduceCtorEq, h1]
        refine ⟨⟨Int.natCast_nonneg _, by omega, Int.le_refl _⟩, acall_ret (f47_ok _ _) ?_⟩
        cases h2 : hasPre (s.extract i s.size) (Utf8.encode 65533) with
        | true =>
          have hd : ((Utf8.decode s i).1 : Int) = 65533 := by simpa using h1
          rw [hd]
          have hc : chR s i = 65533 := by simp [chR, h1, h2, hd]
          simp -implicitDefEqProofs only [ev, ↓reduceIte, Nat.reduceAdd, Nat.reduceEqDiff, Nat.reduceLeDiff, reduceCtorEq, h2]
          refine ⟨⟨by omega, by omega⟩, (i + (Utf8.decode s i).2, acc ++ [⟨65533, i⟩], ver + 1), ⟨by simpa using w2, by simp; omega, ?_⟩, by simp only; omega, wk_keep' (by simp) (by simp) ?_ ?_ ?_⟩
          · rw [hE, hc, List.append_assoc]; rfl
          · refine ⟨⟨by simp, ?_⟩, ⟨by simp, ?_⟩, trivial⟩
            · simp [Bs.get]
            · simp [Bs.get, List.take_of_length_le, Ch.cells]
          · exact ⟨trivial, low_rows _, trivial⟩
          · simp only [wk, ↓reduceIte, Nat.reduceEqDiff, reduceCtorEq, Nat.reduceLT]
            simp
        | false => 
          have hd : ((Utf8.decode s i).1 : Int) = 65533 := by simpa using h1
          rw [hd]
          have hc : chR s i = -1 := by simp [chR, hd, h2]
          simp -implicitDefEqProofs only [ev, ↓reduceIte, Nat.reduceAdd, Nat.reduceEqDiff, Nat.reduceLeDiff, reduceCtorEq, h2]
          refine ⟨⟨by omega, by omega⟩, (i + (Utf8.decode s i).2, acc ++ [⟨-1, i⟩], ver + 1), ⟨by simpa using w2, by simp; omega, ?_⟩, by simp only; omega, wk_keep' (by simp) (by simp) ?_ ?_ ?_⟩
          · rw [hE, hc, List.append_assoc]; rfl
          · refine ⟨⟨by simp, ?_⟩, ⟨by simp, ?_⟩, trivial⟩
            · simp [Bs.get]
            · simp [Bs.get, List.take_of_length_le, Ch.cells]
          · exact ⟨trivial, low_rows _, trivial⟩
          · simp only [wk, ↓reduceIte, Nat.reduceEqDiff, reduceCtorEq, Nat.reduceLT]
            simp
      | false =>
        have hc : chR s i = (Utf8.decode s i).1 := by simp [chR, h1]
        simp -implicitDefEqProofs only [ev, ↓reduceIte, Nat.reduceAdd, Nat.reduceEqDiff, Nat.reduceLeDiff, reduceCtorEq, h1]
        refine ⟨⟨by omega, by omega⟩, (i + (Utf8.decode s i).2, acc ++ [⟨(Utf8.decode s i).1, i⟩], ver + 1), ⟨by simpa using w2, by simp; omega, ?_⟩, by simp only; omega, wk_keep' (by simp) (by simp) ?_ ?_ ?_⟩
        · rw [hE, hc, List.append_assoc]; rfl
        · refine ⟨⟨by simp, ?_⟩, ⟨by simp, ?_⟩, trivial⟩
          · simp [Bs.get]
          · simp [Bs.get, List.take_of_length_le, Ch.cells]
        · exact ⟨trivial, low_rows _, trivial⟩
        · simp only [wk, ↓reduceIte, Nat.reduceEqDiff, reduceCtorEq, Nat.reduceLT]
          simp
    · have hno : ¬ i < s.size := by omega
      simp -implicitDefEqProofs only [ev, ↓reduceIte, Nat.reduceAdd, Nat.reduceEqDiff, Nat.reduceLeDiff, reduceCtorEq, hno]
      refine fin_own (b := 1) (rows := acc.map fun c => c.cells.map .iv) (rs := acc.map Ch.cells) (f := false) rfl ?_ ⟨?_, rfl⟩
      · simp [List.take_of_length_le]
      · have : charsF s (s.size + 1) i = [] := by simp [charsF, hno]
        rw [hE, this, List.append_nil]
end Go.Av

