/-
  The sort, strconv, strings.Join and Parse with its deferred closure; no condition.
-/
import Derived.Test.YtoomnhcglmnajaaGreatDoorAvThree
import Derived.Test.YtoomnhcglmnajaaGreatDoorAvCode
import Derived.Test.YtoomnhcglmnajaaGreatDoorAvSix
import Derived.Test.YtoomnhcglmnajaaGreatDoorAvShelf
import Derived.Shelf.SlSortCmp.NoneTotal
import Derived.Lib.TrimU
set_option linter.unusedVariables false
set_option linter.unusedSimpArgs false
namespace Go.Av
open Go.RowKit Go.Proofs.Tryz

theorem hrep_nil_below {ρ : Rho} {w w' : World} (h : HRep Hp.nil ρ w) (hb : Below w.heap.size w w') : HRep Hp.nil ρ w' ∧ Ext Hp.nil ρ w Hp.nil ρ w' := by
  have no : ∀ (b : Nat) (x : Blk), (Hp.nil).bs.get b = some x → False := by intro b x h; cases h
  refine ⟨⟨fun g hg => Nat.lt_of_lt_of_le (h.xlt g hg) hb.size, fun b x h => (no b x h).elim, fun b x h => (no b x h).elim, fun b x h => (no b x h).elim, fun b x h => (no b x h).elim, fun b b' x x' h => (no b x h).elim⟩, ?_⟩
  exact ⟨Nat.le_refl _, fun b sz ver rows' fz' _ h => (no b _ h).elim, fun b s p _ h => (no b _ h).elim, fun b es _ h => (no b _ h).elim, fun g hg _ => hb.block g hg, hb.size,
    fun g _ h => by obtain ⟨b, x, h1, _⟩ := h; exact (no b x h1).elim, fun g h => h, fun g _ h => .inl h, fun b x h => (no b x h).elim, hb.os, hb.tape, hb.output⟩

theorem vs_vals {H : Hp} {ρ : Rho} {w : World} : ∀ {xs : List Value} {vs : Array Value}, vs.size = (xs.map fun v => LV.one (sct v)).length → (∀ (i : Nat) (lv : LV), (xs.map fun v => LV.one (sct v))[i]? = some lv → ∃ u, vs[i]? = some u ∧ LRep H ρ w lv u) → vs = xs.toArray := by
  intro xs vs hs h
  simp only [List.length_map] at hs
  apply Array.ext'
  apply List.ext_getElem?
  intro i
  rcases Nat.lt_or_ge i xs.length with hi | hi
  · obtain ⟨u, h1, h2⟩ := h i (.one (sct xs[i])) (by simp [List.getElem?_eq_getElem hi])
    have := h2.scI
    subst this
    rw [Array.getElem?_toList, h1]
    simp [List.getElem?_eq_getElem hi]
  · rw [List.getElem?_eq_none (by simp; omega), List.getElem?_eq_none (by simp; omega)]

/-- A contract of values alone, out of one on calls. -/
theorem callsA_vals {P : Program} {f : FuncId} {xs : List Value} {Q : AE → Hp → Prop} (h : ∀ (ρ : Rho) (w : World), GW P ρ w → Calls P f xs.toArray w fun e w' => (∃ ae, Q ae Hp.nil ∧ ∀ H ρ w, ERep H ρ w ae e) ∧ Below w.heap.size w w') : CallsA P f (xs.map fun v => .one (sct v)) Hp.nil Q := by
  intro ρ w vs hG hH hs ha
  rw [vs_vals hs ha]
  refine (h ρ w hG).mono ?_
  rintro e w' ⟨⟨ae, hq, he⟩, hb⟩
  obtain ⟨h1, h2⟩ := hrep_nil_below hH hb
  exact ⟨Hp.nil, ρ, ae, hq, he _ _ _, h1, h2⟩

theorem itoa_ok : ItoaC := by
  intro n hn
  refine ⟨?_, by simp, .one (by simp)⟩
  refine callsA_vals (xs := [.int .i64 n]) fun ρ w _ => ?_
  refine (Go.Proofs.Any.strconv_Itoa_small Go.Proofs.Tryz.lItoa n hn w).mono ?_
  rintro e w' ⟨rfl, rfl⟩
  refine ⟨⟨_, ⟨rfl, rfl⟩, fun H ρ w => ?_⟩, Below.refl _ _⟩
  rw [decDigits_small hn]
  exact LRep.scM rfl

theorem tup2 {H : Hp} {ρ : Rho} {w : World} {a b : Value} (ha : a.oneCell' = true) (hb : b.oneCell' = true) : LRep H ρ w (.tup [.one (sct a), .one (sct b)]) (.tuple #[a, b]) := by
  refine .tup _ _ (fun i => if i = 0 then a else b) rfl (fun i x hi => ?_) (fun i x hi => ?_)
  · match i, hi with
    | 0, _ => rfl
    | 1, _ => rfl
  · match i, hi with
    | 0, hi => simp at hi; subst hi; exact LRep.scM ha
    | 1, hi => simp at hi; subst hi; exact LRep.scM hb

theorem errSyntax_var : prog.globalNamed "strconv.ErrSyntax" = some (Go.Proofs.Tryz.lAtoi_ren.g 15) := by kernel_rfl
theorem errRange_var : prog.globalNamed "strconv.ErrRange" = some (Go.Proofs.Tryz.lAtoi_ren.g 16) := by kernel_rfl

theorem atoi_ok : AtoiC := by
  intro s hs
  refine callsA_vals (xs := [.string s]) fun ρ w hG => ?_
  cases h : Lib.atoiAll s.data.toList with
  | ok v =>
    refine (Go.Proofs.Any.strconv_Atoi_ok Go.Proofs.Tryz.lAtoi s (by omega) v h w).mono ?_
    rintro e w' ⟨rfl, hw⟩
    refine ⟨⟨_, ⟨rfl, v, .nilIface, rfl, .inl ⟨rfl, h⟩⟩, fun H ρ w => tup2 rfl rfl⟩, ?_⟩
    rcases hw with rfl | ⟨t, rfl⟩
    · exact Below.refl _ _
    · exact Lib.bytesWorld_below _ _ _
  | range =>
    obtain ⟨_, ev, hc, hev⟩ := hG _ (.inr errRange_var)
    refine (Go.Proofs.Any.strconv_Atoi_range Go.Proofs.Tryz.lAtoi s (by omega) h ev w hc hev).mono ?_
    rintro e w' ⟨N, rfl, _, _, hb⟩
    exact ⟨⟨_, ⟨rfl, _, _, rfl, .inr ⟨⟨_, _, rfl⟩, fun m => by rw [h]; simp⟩⟩, fun H ρ w => tup2 rfl rfl⟩, hb⟩
  | _ =>
    obtain ⟨_, ev, hc, hev⟩ := hG _ (.inl errSyntax_var)
    refine (Go.Proofs.Any.strconv_Atoi_syntax Go.Proofs.Tryz.lAtoi s (by omega) h ev w hc hev).mono ?_
    rintro e w' ⟨N, rfl, _, _, hb⟩
    exact ⟨⟨_, ⟨rfl, 0, _, rfl, .inr ⟨⟨_, _, rfl⟩, fun m => by rw [h]; simp⟩⟩, fun H ρ w => tup2 rfl rfl⟩, hb⟩
end Go.Av

namespace Go.Av
open Go.RowKit Go.Proofs.Tryz Go.Sort Go.Shelf Go.Proofs

def cmpI (a b : Int) : Int := if a < b then -1 else if a > b then 1 else 0
def encR (r : Rg) : List Value := [.int .i32 r.lo, .int .i32 r.hi]

set_option maxHeartbeats 1000000 in
theorem f88_calls (x y : Rg) (W : World) : Calls prog 88 #[.agg #[.int .i32 x.lo, .int .i32 x.hi], .agg #[.int .i32 y.lo, .int .i32 y.hi]] W fun e w' => e = .returned (.int .i64 (cmpI x.lo y.lo)) ∧ ∃ q os', w' = grow (W.drewN q) os' := by
  go_enter Go.Proofs.Tryz.func88, Go.Proofs.Tryz.ntmps88
  go_wp2
  all_goals
    go_ret
    refine ⟨?_, 0, _, by rw [alloc_eq_grow, alloc_eq_grow, grow_grow]; rfl⟩
    simp_all [cmpI]
    try (split <;> (try split) <;> omega)

def cfR (x y : Rg) : Int := cmpI x.lo y.lo
theorem ltR (x y : Rg) : ltOf cfR x y = decide (x.lo < y.lo) := by
  unfold ltOf cfR cmpI
  by_cases h1 : x.lo < y.lo
  · simp [h1]
  · by_cases h2 : y.lo < x.lo <;> simp [h1, h2]
theorem swoR : SWO (ltOf cfR) where
  irrefl x := by rw [ltR]; simp
  trans x y z h1 h2 := by rw [ltR] at *; simp at *; omega
  ntrans x y z h1 h2 := by rw [ltR] at *; simp at *; omega

/-! ### what the sort leaves -/
theorem sw_heap (w : World) (g o n : Nat) (d : Array Rg) (os : Array Obj) : (sortWorldK encR 2 w g o n d os).heap = w.heap.modify g (onCells (putCells id o (flatK encR 2 d))) ++ os := rfl
theorem sw_size (w : World) (g o n : Nat) (d : Array Rg) (os : Array Obj) : w.heap.size ≤ (sortWorldK encR 2 w g o n d os).heap.size := by
  rw [sw_heap]; simp
theorem sw_other (w : World) (g o n : Nat) (d : Array Rg) (os : Array Obj) (k : Nat) (hk : k < w.heap.size) (h : k ≠ g) : (sortWorldK encR 2 w g o n d os).heap[k]? = w.heap[k]? := by
  rw [sw_heap, Array.getElem?_append_left (by simpa using hk), Array.getElem?_modify, if_neg (Ne.symm h)]
theorem sw_same (w : World) (g o n : Nat) (d : Array Rg) (os : Array Obj) {cs : Array Value} {e : TypeId} {fr : Nat × Nat} (h : w.heap[g]? = some (.cells cs e fr)) : (sortWorldK encR 2 w g o n d os).heap[g]? = some (.cells (putCells id o (flatK encR 2 d) cs) e fr) := by
  have hlt := (Array.getElem?_eq_some_iff.1 h).1
  rw [sw_heap, Array.getElem?_append_left (by simpa using hlt), Array.getElem?_modify, if_pos rfl, h]; rfl

theorem flat_get (d : Array Rg) (i j : Nat) (hi : i < d.size) (hj : j < 2) : (flatK encR 2 d)[i * 2 + j]! = (encR d[i]!)[j]! := by
  rw [get_flatK _ _ _ _ (by omega), show (i * 2 + j) / 2 = i by omega, show (i * 2 + j) % 2 = j by omega]

theorem put_in (o : Nat) (F cs : Array Value) (t : Nat) (ht : t < F.size) (hs : o + t < cs.size) : (putCells id o F cs)[o + t]? = some F[t]! := by
  simp only [putCells, Array.getElem?_mapIdx]
  rw [Array.getElem?_eq_getElem hs]
  simp [ht]
theorem put_out (o : Nat) (F cs : Array Value) (t : Nat) (ht : F.size ≤ t) : (putCells id o F cs)[o + t]? = cs[o + t]? := by
  simp only [putCells, Array.getElem?_mapIdx]
  cases cs[o + t]? with
  | none => rfl
  | some x =>
    simp only [Option.map_some, Option.some.injEq]
    rw [if_neg (by omega)]

theorem arep_sc {H : Hp} {ρ : Rho} {w : World} {x v : Value} (h : ARep H ρ w (sct x) v) : v = x := by
  cases h with
  | iv _ _ h => cases h; rfl
theorem arep_mk {H : Hp} {ρ : Rho} {w : World} {x : Value} (h : x.oneCell' = true) : ARep H ρ w (sct x) x := .iv _ _ (.sc _ h)

theorem rows_rg (l : Cls) (i : Nat) (hi : i < l.length) : (rowsOf Rg.cells l)[i]? = some [sct (.int .i32 l[i].lo), sct (.int .i32 l[i].hi)] := by
  rw [rowsOf_get, List.getElem?_eq_getElem hi]; rfl

theorem sort_ok : SortC := by
  intro ver l z hlen
  refine ⟨?_, by simp, rowsOf_low _ _⟩
  intro ρ w vs hG hH hs ha
  obtain ⟨v0, e0, r0⟩ := ha 0 _ rfl
  obtain ⟨v1, e1, r1⟩ := ha 1 _ rfl
  have hv1 : v1 = .func (.func 88) #[] #[] := r1.scI
  have hvs : vs = #[v0, v1] := by
    apply Array.ext'
    apply List.ext_getElem?
    intro i
    match i with
    | 0 => rw [Array.getElem?_toList, e0]; rfl
    | 1 => rw [Array.getElem?_toList, e1]; rfl
    | i + 2 =>
      rw [List.getElem?_eq_none (by simp at hs ⊢; omega)]; rfl
  subst hvs; subst hv1
  have hg0 : (heapO 2 ver (rowsOf Rg.cells (l ++ z))).bs.get 0 = some (.cells 2 ver (rowsOf Rg.cells (l ++ z)) false) := rfl
  obtain ⟨m1, A, c, rfl, m2, m4⟩ := r0.ownI hg0
  obtain ⟨b1, b2, b3, b4, b5, b6⟩ := hH.blk 0 _ hg0
  let E : Ent prog := ⟨_, ρ, w, hH, hG, [], 0, #[]⟩
  cases l with
  | nil =>
    refine (AnyF.slices_SortFunc_none Go.Proofs.Tryz.sortRg A c _ w).mono ?_
    rintro e w' ⟨rfl, rfl⟩
    refine fin_sound (E := E) (lv := .tup []) (fin_ownf (sz := 2) (ver := ver) (rows' := rowsOf Rg.cells ([] ++ z)) Nat.zero_lt_one rfl (.tup _ (by simp)) (rowsOf_low _ _) ⟨rfl, [], .refl _, List.Pairwise.nil, rfl⟩) ⟨hH, Ext.refl _ _ _⟩ ?_
    exact .tup _ _ (fun _ => undef) rfl (by simp) (by simp)
  | cons rr l0 =>
    generalize hl : rr :: l0 = l at *
    have hpos : 0 < l.length := by rw [← hl]; simp
    obtain ⟨k1, k2⟩ := m4 (by omega)
    subst k2
    have hnil : (ρ 0).isNil = false := by
      cases hn : (ρ 0).isNil with
      | false => rfl
      | true => have := b5 hn; omega
    obtain ⟨cs, e, hheap, hcsz, hcell⟩ := b6 hnil
    have hglt := hH.glt 0 _ hg0 hnil
    generalize hgo : (ρ 0).g = g at *
    generalize hoo : (ρ 0).o = o at *
    have hrl : (rowsOf Rg.cells (l ++ z)).length = l.length + z.length := by rw [rowsOf_length]; simp
    -- what a cell holds
    have hrow : ∀ (m : Cls) (i : Nat) (hi : i < m.length) (j : Nat) (hj : j < 2), (rowsOf Rg.cells m)[i]? = some ((encR m[i]).map sct) := by
      intro m i hi j hj
      rw [rows_rg m i hi]; rfl
    have hval : ∀ (i : Nat) (hi : i < l.length + z.length) (j : Nat), j < 2 → cs[o + (i * 2 + j)]? = some ((encR ((l ++ z)[i]'(by simpa using hi)))[j]!) := by
      intro i hi j hj
      have hi' : i < (l ++ z).length := by simpa using hi
      have h1 := hrow (l ++ z) i hi' j hj
      have h2 : ((encR (l ++ z)[i]).map sct)[j]? = some (sct ((encR (l ++ z)[i])[j]!)) := by
        match j, hj with
        | 0, _ => rfl
        | 1, _ => rfl
      obtain ⟨u, hu, hr⟩ := hcell i _ j _ h1 h2
      rw [arep_sc hr] at hu
      rw [← hu]; congr 1; omega
    have hdsz : l.toArray.size = l.length := rfl
    have hfs : ∀ d : Array Rg, (flatK encR 2 d).size = d.size * 2 := fun d => size_flatK _ _ _
    have hcs2 : o + l.length * 2 ≤ cs.size := by omega
    have hH2 : HoldsK encR 2 w g o l.toArray := by
      intro q hq
      rw [hfs, hdsz] at hq
      have hi : q / 2 < l.length := by omega
      have hj : q % 2 < 2 := Nat.mod_lt _ (by omega)
      have hqe : q = q / 2 * 2 + q % 2 := by omega
      refine ⟨?_, ?_⟩
      · have hv := hval (q / 2) (by omega) (q % 2) hj
        rw [hqe, flat_get l.toArray (q / 2) (q % 2) hi hj]
        have hb : ((encR l.toArray[q / 2]!)[q % 2]!) = (encR ((l ++ z)[q / 2]'(by simp; omega)))[q % 2]! := by
          congr 2
          rw [List.getElem_append_left hi]
          simp [hi]
        simp only [World.cell?, hheap, id, Option.isSome_none, Bool.false_eq_true, if_false]
        rw [hv, hb]
      · simp [World.frozen?, hheap]
    have hcmp : CmpLays prog 88 #[] encR 2 cfR g o l.toArray.size w := fun _ _ _ _ x y => f88_calls x y _
    have eg : ∀ args w, (callFunc 88 args).run prog w = .ok (.enter 88 args) w := enters_of Go.Proofs.Tryz.func88 (by kernel_rfl) rfl
    have hcon := AnyQ.slices_SortFunc Go.Proofs.Tryz.sortRg 2 Go.Proofs.Tryz.isAgg86 Go.Proofs.Tryz.sizeOf86 encR (fun _ => rfl) (fun x v hv => by simp [encR] at hv; rcases hv with rfl | rfl <;> rfl) cfR swoR 88 #[] g o c l.toArray w eg hcmp hH2 hglt (by rw [hdsz]; omega)
    refine hcon.mono ?_
    rintro e' w' ⟨rfl, d', n, os, ⟨hps, _, hperm⟩, hsort, rfl⟩
    rw [hdsz] at hps hperm hsort
    have hpl : d'.toList.Perm l := by
      have h1 : (d'.extract 0 l.length).toList = d'.toList := by rw [← hps]; simp
      have h2 : (l.toArray.extract 0 l.length).toList = l := by simp
      rw [h1, h2] at hperm
      exact hperm
    have hso : SortedLo d'.toList := by
      rw [SortedLo, List.pairwise_iff_getElem]
      intro i j hi hj hij
      have := hsort i j (Nat.zero_le _) hij (by simpa [hps] using hj)
      rw [ltR] at this
      simp only [Array.length_toList] at hi hj
      simp only [decide_eq_false_iff_not] at this
      rw [getElem!_pos d' j hj, getElem!_pos d' i hi] at this
      simp only [Array.getElem_toList]
      omega
    have hdl : d'.toList.length = l.length := by simpa using hps
    obtain ⟨hH', hX⟩ := turn (w' := sortWorldK encR 2 w g o n d' os) hH 0 (.cells 2 ver (rowsOf Rg.cells (d'.toList ++ z)) false) (ρ 0) (sw_size _ _ _ _ _ _) rfl rfl rfl
      (fun k hk h => sw_other _ _ _ _ _ _ k hk (fun e => h _ hg0 hnil rfl (by rw [hgo]; exact e.symm)))
      (fun _ => ⟨by rw [hgo]; exact Nat.lt_of_lt_of_le hglt (sw_size _ _ _ _ _ _), .inr ⟨_, hg0, hnil, rfl, rfl⟩⟩)
      (fun _ sz ver' rows' fz' h => by
        simp only [Blk.cells.injEq] at h
        obtain ⟨rfl, rfl, rfl, rfl⟩ := h
        exact ⟨2, ver, _, false, hg0, Nat.le_refl _, fun _ => ⟨rfl, by rw [rowsOf_length, rowsOf_length]; simp [hdl], rfl⟩⟩)
      (fun _ s p h => by cases h) (fun _ es h => by cases h)
      (fun hX => by
        refine ⟨fun i row hi => ?_, by omega, ?_, ?_, b5, fun _ => ⟨_, e, by rw [hgo]; exact sw_same _ _ _ _ _ _ hheap, ?_, ?_⟩⟩
        · rw [rowsOf_get] at hi
          obtain ⟨x, _, rfl⟩ := Option.map_eq_some_iff.1 hi
          rfl
        · rw [rowsOf_length]; simp only [List.length_append, hdl]; rw [hrl] at b3; exact b3
        · rw [rowsOf_length]; simp only [List.length_append, hdl]; rw [hrl] at b4; exact b4
        · rw [hoo]; simpa [putCells] using hcsz
        · intro i row j x hi hj
          have hil : i < (d'.toList ++ z).length := by
            have := (List.getElem?_eq_some_iff.1 hi).1
            rwa [rowsOf_length] at this
          have hil2 : i < l.length + z.length := by simpa [hps] using hil
          have hrw := hrow (d'.toList ++ z) i hil 0 (by omega)
          rw [hrw] at hi
          simp only [Option.some.injEq] at hi
          subst hi
          have hj2 : j < 2 := by
            have := (List.getElem?_eq_some_iff.1 hj).1
            simpa [encR] using this
          have hx : x = sct ((encR (d'.toList ++ z)[i])[j]!) := by
            match j, hj2, hj with
            | 0, _, hj => simpa [encR] using hj.symm
            | 1, _, hj => simpa [encR] using hj.symm
          subst hx
          refine ⟨_, ?_, arep_mk ?_⟩
          · rw [hoo, Nat.add_assoc]
            rcases Nat.lt_or_ge i l.length with h | h
            · rw [put_in _ _ _ _ (by rw [hfs, hps]; omega) (by omega), flat_get d' i j (by omega) hj2]
              congr 3
              rw [List.getElem_append_left (by simpa [hps] using h)]
              simp [hps, h]
            · rw [put_out _ _ _ _ (by rw [hfs, hps]; omega), hval i hil2 j hj2]
              congr 3
              rw [List.getElem_append_right (by omega), List.getElem_append_right (by rw [hdl]; omega)]
              simp [hps]
          · match j, hj2 with
            | 0, _ => rfl
            | 1, _ => rfl)
    refine fin_sound (E := E) (lv := .tup []) (hp := ⟨(0, .cells 2 ver (rowsOf Rg.cells (d'.toList ++ z)) false) :: (heapO 2 ver (rowsOf Rg.cells (l ++ z))).bs, max (heapO 2 ver (rowsOf Rg.cells (l ++ z))).nxt (0 + 1)⟩) (fin_ownf (sz := 2) (ver := ver) (rows' := rowsOf Rg.cells (d'.toList ++ z)) (Nat.lt_of_lt_of_le Nat.zero_lt_one (Nat.le_max_left _ _)) rfl (.tup _ (by simp)) (rowsOf_low _ _) ⟨rfl, d'.toList, hpl, hso, rfl⟩) ⟨hH', hX⟩ ?_
    exact .tup _ _ (fun _ => undef) rfl (by simp) (by simp)
end Go.Av

namespace Go.Av
open Go.RowKit Go.Proofs.Tryz

theorem extraJ : Go.Proofs.Builder.Extra prog Go.Proofs.Tryz.lJoin_ren where
  sizeBuilder := by kernel_rfl
  liesBuilder := by kernel_rfl
  t5 := Go.Proofs.Tryz.underlying5
  a5 := Go.Proofs.Tryz.isAgg5
  z5 := Go.Proofs.Tryz.sizeOf5
  v5 := Go.Proofs.Tryz.zeroValue5
  infoByte := by kernel_rfl
  cellsByte := by kernel_rfl
  sizeByte := by kernel_rfl
  neB5 := by decide

def strRow (s : ByteArray) : List IV := [.sc (.string s)]
def joinB (xs : List ByteArray) (sep : ByteArray) : ByteArray := ⟨(Lib.join (xs.map (·.data.toList)) sep.data.toList).toArray⟩

theorem irep_sc {M : Nat → Prop} {w : World} {x v : Value} (h : IRep M w (.sc x) v) : v = x := by cases h; rfl

theorem join_ok (xs : List ByteArray) (sep : ByteArray) (hlen : (joinB xs sep).size ≤ 140737488355328) : Ret prog 56 [.one (.iv (.sl 1 (xs.map strRow))), .one (sct (.string sep))] (.one (sct (.string (joinB xs sep)))) := by
  refine ⟨?_, by simp, .one (by simp)⟩
  intro ρ w vs hG hH hs ha
  obtain ⟨v0, e0, r0⟩ := ha 0 _ rfl
  obtain ⟨v1, e1, r1⟩ := ha 1 _ rfl
  have hv1 : v1 = .string sep := r1.scI
  have hvs : vs = #[v0, v1] := by
    apply Array.ext'
    apply List.ext_getElem?
    intro i
    match i with
    | 0 => rw [Array.getElem?_toList, e0]; rfl
    | 1 => rw [Array.getElem?_toList, e1]; rfl
    | i + 2 =>
      rw [List.getElem?_eq_none (by simp at hs ⊢; omega)]; rfl
  subst hvs; subst hv1
  have fin : ∀ e w', e = .returned (.string (joinB xs sep)) ∧ Below w.heap.size w w' → ∃ H' ρ' ae, (ae = AE.ret (.one (sct (.string (joinB xs sep)))) ∧ H' = Hp.nil) ∧ ERep H' ρ' w' ae e ∧ HRep H' ρ' w' ∧ Ext Hp.nil ρ w H' ρ' w' := by
    rintro e w' ⟨rfl, hb⟩
    obtain ⟨h1, h2⟩ := hrep_nil_below hH hb
    exact ⟨Hp.nil, ρ, _, ⟨rfl, rfl⟩, LRep.scM rfl, h1, h2⟩
  cases r0 with
  | one _ _ r0 =>
    have r0 := r0.ivR
    generalize hrows : xs.map strRow = rows at r0
    cases r0 with
    | sl _ _ A cap g o cv hsz hl hcap hA hc hr =>
      have hxl : xs.length = rows.length := by rw [← hrows]; simp
      rw [← hxl]
      rcases Nat.eq_zero_or_pos xs.length with h0 | h0
      · have hx : xs = [] := List.length_eq_zero_iff.1 h0
        subst hx
        refine (Go.Proofs.Any.strings_Join_none Go.Proofs.Tryz.lJoin extraJ A cap sep w).mono ?_
        rintro e w' ⟨rfl, rfl⟩
        exact fin _ _ ⟨rfl, Below.refl _ _⟩
      · obtain ⟨rfl, _, hg⟩ := hA (by omega)
        refine (Go.Proofs.Any.strings_Join Go.Proofs.Tryz.lJoin extraJ g o cap xs sep w ?_ hg (by omega) (by omega) (by simpa [joinB, ByteArray.size] using hlen)).mono fun e w' h => fin e w' h
        intro j x hj
        have h1 : rows[j]? = some (strRow x) := by rw [← hrows]; simp [hj]
        have h2 := hc j _ 0 _ h1 rfl
        have h3 := hr j _ 0 _ h1 rfl
        have h4 : cv j 0 = .string x := irep_sc h3
        rw [h4] at h2
        simpa using h2
end Go.Av

set_option maxRecDepth 4000
namespace Go.Av
open Go.RowKit Go.Proofs.Tryz

/-! ### the deferred closure of Parse -/
def H3 (row : List AV) (n e : AV) : Hp := ⟨[(0, .cells 7 0 [row] false), (1, .cells 1 0 [[n]] false), (2, .cells 1 0 [[e]] false)], 3⟩
def pOf (ρ : Rho) (i : Nat) : Value := .pointer (some ⟨(ρ i).g, (ρ i).o, none⟩)

theorem assert60_yes (W : World) (v : Value) : (Instr.typeAssert (.iface 60 v) 20 60 true).run prog W = .ok (.tuple #[v, .bool true]) W := by kernel_rfl
theorem assert60_nil (W : World) : (Instr.typeAssert .nilIface 20 60 true).run prog W = .ok (.tuple #[.agg #[.int .i64 0, .int .i64 0], .bool false]) W := by kernel_rfl

theorem setCell_new (w : World) (c : Array Value) (i : Nat) (v : Value) (t : TypeId) : (w.alloc (.cells c t)).setCell ⟨w.heap.size, i, none⟩ v = w.alloc (.cells (c.setIfInBounds i v) t) := by
  simp only [World.setCell, World.alloc]
  congr 1
  apply Array.ext_getElem?
  intro j
  by_cases h : j = w.heap.size
  · subst h
    rw [Array.getElem?_modify, if_pos rfl]
    simp
  · have h' : ¬ w.heap.size = j := fun e => h e.symm
    simp [Array.getElem?_modify, Array.getElem?_push, h, h']

theorem new_pair {H : Hp} {ρ : Rho} {w : World} (hH : HRep H ρ w) (a b : Value) (ha : a.oneCell' = true) (hb : b.oneCell' = true) (t : TypeId) :
    HRep (H.new (.cells 2 0 [[sct a, sct b]] false)) (ρ.set H.nxt ⟨w.heap.size, 0, 1, false⟩) (w.alloc (.cells #[a, b] t)) ∧
    Ext H ρ w (H.new (.cells 2 0 [[sct a, sct b]] false)) (ρ.set H.nxt ⟨w.heap.size, 0, 1, false⟩) (w.alloc (.cells #[a, b] t)) := by
  refine new_cells hH (.cells #[a, b] t) (.cells 2 0 [[sct a, sct b]] false) ⟨w.heap.size, 0, 1, false⟩ (fun _ => rfl) (fun H' ρ' e => ?_)
  refine ⟨fun i row hrow => ?_, by decide, by simp, by simp, by simp, fun _ => ⟨#[a, b], t, heap_alloc_new w _, by simp, fun i row j x hrow hx => ?_⟩⟩
  · rcases i with _ | i <;> simp at hrow
    subst hrow; simp
  · rcases i with _ | i <;> simp at hrow
    subst hrow
    rcases j with _ | _ | j <;> simp at hx <;> subst hx
    · exact ⟨a, by simp, .iv _ _ (.sc _ ha)⟩
    · exact ⟨b, by simp, .iv _ _ (.sc _ hb)⟩

theorem arep_p {H : Hp} {ρ : Rho} {w : World} {b sz : Nat} {rows : List (List AV)} {fz : Bool} (hb : b < H.nxt) (hg : H.bs.get b = some (.cells sz 0 rows fz)) : LRep H ρ w (.one (.ptr b 0 0 0)) (pOf ρ b) := by
  have := ARep.mkPtr (ρ := ρ) (w := w) hb hg (i := 0) (j := 0)
  exact .one _ _ (by simpa [pOf] using this)

theorem ptr_pOf {H : Hp} {ρ : Rho} {w : World} {b sz : Nat} {rows : List (List AV)} {fz : Bool} {v : Value} (h : LRep H ρ w (.one (.ptr b 0 0 0)) v) (hg : H.bs.get b = some (.cells sz 0 rows fz)) : v = pOf ρ b := by
  simpa [pOf] using h.ptrI hg

theorem TRep.nil' {H : Hp} {ρ : Rho} {w : World} {a : Act} : TRep H ρ w [] a := fun _ _ h => by cases h
theorem TRep.cons' {H : Hp} {ρ : Rho} {w : World} {a : Act} {t : Nat} {lv : LV} {tm : Tm} (h : LRep H ρ w lv (a.tmps.getD t undef)) (hr : TRep H ρ w tm a) : TRep H ρ w ((t, lv) :: tm) a := fun u x hu => by
  simp only [Tm.get] at hu
  split at hu
  · rename_i e; cases hu; subst e; exact h
  · exact hr u x hu

theorem f27_awp (x0 x1 x2 x3 x4 x5 x6 n e : AV) (code pos : Int) : awp prog 3 rcD (fun ex tm hp => ex = .normal ∧ Wk 3 tm hp [(0, .one (.ptr 0 0 0 0)), (1, .one (.ptr 1 0 0 0)), (2, .one (.ptr 2 0 0 0))] (H3 zeroRow (sct (.int .i64 pos)) (sct (.int .i64 code))))
    [(0, .one (.ptr 0 0 0 0)), (1, .one (.ptr 1 0 0 0)), (2, .one (.ptr 2 0 0 0)), (3, .one (.ptr 3 0 0 0)), (4, .one (sct (.bool true)))]
    ((H3 [x0, x1, x2, x3, x4, x5, x6] n e).new (.cells 2 0 [[sct (.int .i64 code), sct (.int .i64 pos)]] false)) := by
  simp only [oo, on, og, om, ol, oh, zN, ci, rcD, H3]
  simp -implicitDefEqProofs only [ev, ↓reduceIte, Nat.reduceAdd, Nat.reduceEqDiff, Nat.reduceLeDiff, reduceCtorEq, List.contains_nil, List.contains_cons, Bool.or_false, Bool.false_eq_true, Same]
  refine wk_keep' (by simp) (by simp) ?_ ?_ ?_
  · simp [BsEq, Bs.get, zeroRow, sct]
  · exact ⟨by simp [Blk.lows, zeroRow, sct], by simp [Blk.lows], by simp [Blk.lows], trivial⟩
  · simp only [wk, ↓reduceIte, Nat.reduceEqDiff, reduceCtorEq, Nat.reduceLT]

theorem f27_awp_no (hp : Hp) (k : Nat) : awp prog k rcD (fun ex tm hp' => ex = .normal ∧ hp' = hp) [(4, .one (sct (.bool false)))] hp := by
  simp only [oo, on, og, om, ol, oh, zN, ci, rcD]
  simp -implicitDefEqProofs only [ev, ↓reduceIte, Nat.reduceAdd, Nat.reduceEqDiff, Nat.reduceLeDiff, reduceCtorEq]

theorem results27 (tmps : Array Value) (w : World) : (results Go.Proofs.Tryz.f27 tmps).run prog w = .ok (.tuple #[]) w := by simp [go_sem, results, Go.Proofs.Tryz.results27]

/-- The closure, entered as a deferred call of a frame that panics with an error of the parser. -/
theorem f27_pan {x0 x1 x2 x3 x4 x5 x6 n e : AV} {ρ : Rho} {w : World} (hH : HRep (H3 [x0, x1, x2, x3, x4, x5, x6] n e) ρ w) (hG : GW prog ρ w) (code pos : Int) :
    CallsD prog 27 #[pOf ρ 0, pOf ρ 1, pOf ρ 2] (.panicking [{ v := errAt code pos, recovered := false }]) w fun e' u' w' =>
      e' = .returned (.tuple #[]) ∧ u' = .panicking [{ v := errAt code pos, recovered := true }] ∧
      ∃ ρ', HRep (H3 zeroRow (sct (.int .i64 pos)) (sct (.int .i64 code))) ρ' w' ∧ Ext (H3 [x0, x1, x2, x3, x4, x5, x6] n e) ρ w (H3 zeroRow (sct (.int .i64 pos)) (sct (.int .i64 code))) ρ' w' ∧ ∀ i, i < 3 → pOf ρ' i = pOf ρ i := by
  refine callsD_of_wpS Go.Proofs.Tryz.func27 body27_eq fun c₀ cs hu => ?_
  apply wpS_seq
  rw [show subC body27 [0] = _ from rfl]
  apply wpS_region
  simp [wpOpsS, go_sem, recoverD, hu, Go.Proofs.Tryz.ntmps27, Exit.thenS, errAt, assert60_yes, Array.replicate]
  try rw [setCell_new, setCell_new]
  obtain ⟨hH', e'⟩ := new_pair hH (.int .i64 code) (.int .i64 pos) rfl rfl 60
  have hwp := awp_sound (E := ⟨_, ρ, w, hH, hG, [], 3, #[pOf ρ 0, pOf ρ 1, pOf ρ 2]⟩) (n := 16) (rsvC_ok rcD_ok) _ _ _ _
    { tmps := #[pOf ρ 0, pOf ρ 1, pOf ρ 2, Value.pointer (some { block := w.heap.size, off := 0 }), Value.bool true,
          Value.tuple #[Value.agg #[Value.int IntKind.i64 code, Value.int IntKind.i64 pos], Value.bool true],
          Value.iface 60 (Value.agg #[Value.int IntKind.i64 code, Value.int IntKind.i64 pos]),
          Value.tuple #[Value.agg #[Value.int IntKind.i64 code, Value.int IntKind.i64 pos], Value.bool true],
          Value.agg #[Value.int IntKind.i64 code, Value.int IntKind.i64 pos], Value.bool true, undef, undef, undef,
          undef, undef, undef], defers := [] }
    (w.alloc (.cells #[.int .i64 code, .int .i64 pos] 60)) (f27_awp x0 x1 x2 x3 x4 x5 x6 n e code pos) ⟨?_, ⟨hH', e'⟩, rfl, rfl, ?_⟩
  · refine wpS_of_wp (wp_mono hwp ?_)
    rintro ex a w' hpo
    cases ex with
    | normal =>
      obtain ⟨tm, hp, ρ1, ⟨_, hwk⟩, hS⟩ := hpo
      obtain ⟨ρ2, hS2⟩ := wk_sound hwk hS
      refine ⟨hS2.defers, _, rfl, _, results27 _ _, rfl, rfl, ρ2, hS2.h.rep, hS2.h.ext, fun i hi => ?_⟩
      have hp' := hS2.pin i hi
      have hq : a.tmps.getD i undef = pOf ρ i := by
        rw [Array.getD_eq_getD_getElem?, hp']
        obtain rfl | rfl | rfl : i = 0 ∨ i = 1 ∨ i = 2 := by omega
        all_goals rfl
      rw [← hq]
      obtain rfl | rfl | rfl : i = 0 ∨ i = 1 ∨ i = 2 := by omega
      · exact (ptr_pOf (hS2.tr 0 _ rfl) rfl).symm
      · exact (ptr_pOf (hS2.tr 1 _ rfl) rfl).symm
      · exact (ptr_pOf (hS2.tr 2 _ rfl) rfl).symm
    | ret => obtain ⟨tm, hp, ρ1, ⟨h, _⟩, hS⟩ := hpo; cases h
    | exit id => obtain ⟨tm, hp, ρ1, ⟨h, _⟩, hS⟩ := hpo; cases h
    | panic c => obtain ⟨v, hp, ρ1, ⟨h, _⟩, hS⟩ := hpo; cases h
    | goto => exact hpo.elim
    | outgrown => exact hpo.elim
  · refine .cons' ?_ (.cons' ?_ (.cons' ?_ (.cons' ?_ (.cons' ?_ .nil'))))
    · exact (arep_p (H := H3 [x0, x1, x2, x3, x4, x5, x6] n e) (ρ := ρ) (w := w) (b := 0) (show 0 < 3 by omega) rfl).keep e'
    · exact (arep_p (H := H3 [x0, x1, x2, x3, x4, x5, x6] n e) (ρ := ρ) (w := w) (b := 1) (show 1 < 3 by omega) rfl).keep e'
    · exact (arep_p (H := H3 [x0, x1, x2, x3, x4, x5, x6] n e) (ρ := ρ) (w := w) (b := 2) (show 2 < 3 by omega) rfl).keep e'
    · have := arep_p (H := (H3 [x0, x1, x2, x3, x4, x5, x6] n e).new (.cells 2 0 [[sct (.int .i64 code), sct (.int .i64 pos)]] false)) (ρ := ρ.set 3 ⟨w.heap.size, 0, 1, false⟩) (w := w.alloc (.cells #[.int .i64 code, .int .i64 pos] 60)) (b := 3) (show 3 < 4 by omega) rfl
      show LRep _ (ρ.set 3 _) _ _ _
      simpa [pOf] using this
    · exact .scM rfl
  · intro i hi
    obtain rfl | rfl | rfl : i = 0 ∨ i = 1 ∨ i = 2 := by have : i < 3 := hi; omega
    all_goals rfl
/-- The closure, entered as a deferred call of a frame that returns. -/
theorem f27_idle {H : Hp} {ρ : Rho} {w : World} (hH : HRep H ρ w) (hG : GW prog ρ w) (p q r : Value) :
    CallsD prog 27 #[p, q, r] .returning w fun e' u' w' => e' = .returned (.tuple #[]) ∧ u' = .returning ∧ ∃ ρ', HRep H ρ' w' ∧ Ext H ρ w H ρ' w' := by
  refine callsD_of_wpS Go.Proofs.Tryz.func27 body27_eq fun c₀ cs hu => ?_
  apply wpS_seq
  rw [show subC body27 [0] = _ from rfl]
  apply wpS_region
  simp [wpOpsS, go_sem, recoverD, hu, Go.Proofs.Tryz.ntmps27, Exit.thenS, assert60_nil, Array.replicate]
  try rw [setCell_new, setCell_new]
  have hwp := awp_sound (E := ⟨_, ρ, w, hH, hG, [], 3, #[p, q, r]⟩) (n := 16) (rsvC_ok rcD_ok) _ _ _ _
    { tmps := #[p, q, r, Value.pointer (some { block := w.heap.size, off := 0 }), Value.bool false,
          Value.tuple #[Value.agg #[Value.int IntKind.i64 0, Value.int IntKind.i64 0], Value.bool false],
          Value.nilIface,
          Value.tuple #[Value.agg #[Value.int IntKind.i64 0, Value.int IntKind.i64 0], Value.bool false],
          Value.agg #[Value.int IntKind.i64 0, Value.int IntKind.i64 0], Value.bool false, undef, undef, undef,
          undef, undef, undef], defers := [] }
    (w.alloc (.cells #[.int .i64 0, .int .i64 0] 60)) (f27_awp_no H H.nxt) ⟨.cons' (.scM rfl) .nil', ⟨hH.alloc _, ext_alloc _⟩, rfl, rfl, ?_⟩
  · refine wpS_of_wp (wp_mono hwp ?_)
    rintro ex a w' hpo
    cases ex with
    | normal =>
      obtain ⟨tm, hp, ρ1, ⟨_, rfl⟩, hS⟩ := hpo
      exact ⟨hS.defers, _, rfl, _, results27 _ _, rfl, hu, ρ1, hS.h.rep, hS.h.ext⟩
    | ret => obtain ⟨tm, hp, ρ1, ⟨h, _⟩, hS⟩ := hpo; cases h
    | exit id => obtain ⟨tm, hp, ρ1, ⟨h, _⟩, hS⟩ := hpo; cases h
    | panic c => obtain ⟨v, hp, ρ1, ⟨h, _⟩, hS⟩ := hpo; cases h
    | goto => exact hpo.elim
    | outgrown => exact hpo.elim
  · intro i hi
    obtain rfl | rfl | rfl : i = 0 ∨ i = 1 ∨ i = 2 := by have : i < 3 := hi; omega
    all_goals rfl
end Go.Av

namespace Go.Av
open Go.RowKit Go.Proofs.Tryz

def rs11 : List RRes := [.cell true 7 2, .cell false 1 3, .cell false 1 4]
theorem rs11_ok : rsvRs prog Go.Proofs.Tryz.f11.results.toList = some rs11 := by kernel_rfl

/-- What parsing answers: the node, how far (where it went wrong), and what is wrong. -/
def parseF (s : ByteArray) : Except (Int × Int) Nd :=
  if (s.size : Int) > 200 then .error (3, 200) else
  match exprF ((charsOf s).length + 1) s.size (charsOf s) 0 with
  | .error e => .error e
  | .ok (x, cs, _) => if cs.length = 0 then .ok x else .error (2, atOf cs s.size)

def parse3 (s : ByteArray) : Nd × Int × Int := match parseF s with
  | .ok x => (x, s.size, 0)
  | .error (c, a) => (emptyN, a, c)

abbrev tm11 (s : ByteArray) : Tm := [(0, .one (sct (.string s))), (2, .one (.ptr 0 0 0 0)), (3, .one (.ptr 1 0 0 0)), (4, .one (.ptr 2 0 0 0))]
abbrev H3z : Hp := H3 zeroRow (sct (.int .i64 0)) (sct (.int .i64 0))

theorem h3_low {row : List AV} {n e : AV} (hr : ∀ x ∈ row, Low 0 x) (hn : Low 0 n) (he : Low 0 e) : LowBs 3 (H3 row n e).bs :=
  ⟨by simp [Blk.lows]; exact fun x hx => (hr x hx).mono (by omega), by simp [Blk.lows]; exact hn.mono (by omega), by simp [Blk.lows]; exact he.mono (by omega), trivial⟩

theorem awpA (s : ByteArray) : awp prog 0 rcA (fun ex tm hp => ex = .normal ∧ Wk 0 tm hp (tm11 s) H3z) [(0, .one (sct (.string s)))] Hp.nil := by
  simp only [oo, on, og, om, ol, oh, zN, ci, rcA]
  simp -implicitDefEqProofs only [ev, ↓reduceIte, Nat.reduceAdd, Nat.reduceEqDiff, Nat.reduceLeDiff, reduceCtorEq]
  refine wk_keep' (by simp) (by simp) ?_ (h3_low (by simp [zeroRow]) (by simp) (by simp)) ?_
  · simp [BsEq, Bs.get, zeroRow, sct, H3]
  · simp only [wk, ↓reduceIte, Nat.reduceEqDiff, reduceCtorEq, Nat.reduceLT]

theorem encN_llow (x : Nd) : LLow 0 (encN x) := .agg _ (by
  intro y hy
  obtain ⟨z, _, rfl⟩ := List.mem_map.1 hy
  exact .iv z)
theorem cv_zero {H : Hp} : CvLV H (.agg zeroRow) (encN emptyN) :=
  .agg (.cons (.refl _) (.cons (.nilSl 2) (.cons (.refl _) (.cons (.refl _) (.cons (.refl _) (.cons (.refl _) (.cons (.nilSl 7) .nil)))))))

theorem awpB1 (s : ByteArray) (h : (s.size : Int) > 200) {Q : AE → Hp → Prop} (hQ : Q (.ret (.tup [encN emptyN, .one (sct (.int .i64 200)), .one (sct (.int .i64 3))])) Hp.nil) : awp prog 0 rcB (fun ex tm hp => ex = .ret ∧ body prog rs11 0 Q ex tm hp) (tm11 s) H3z := by
  simp only [oo, on, og, om, ol, oh, zN, ci, rcB, tm11, H3z, H3, rs11]
  simp -implicitDefEqProofs only [ev, ↓reduceIte, Nat.reduceAdd, Nat.reduceEqDiff, Nat.reduceLeDiff, reduceCtorEq, h, zeroRow]
  refine fin_ret [] (.tup (.cons cv_zero (.cons (.refl _) (.cons (.refl _) .nil)))) (.tup _ ?_) hQ
  intro x hx
  rcases List.mem_cons.1 hx with rfl | hx
  · exact encN_llow _
  · simp at hx; rcases hx with rfl | rfl <;> exact .one _ (by simp)

theorem awpB2 (s : ByteArray) (h : ¬ (s.size : Int) > 200) : awp prog 0 rcB (fun ex tm hp => ex = .normal ∧ Wk 0 tm hp (tm11 s) H3z) (tm11 s) H3z := by
  simp only [oo, on, og, om, ol, oh, zN, ci, rcB, tm11, H3z]
  simp -implicitDefEqProofs only [ev, ↓reduceIte, Nat.reduceAdd, Nat.reduceEqDiff, Nat.reduceLeDiff, reduceCtorEq, h]
  simp only [H3]
  refine wk_keep' (by simp) (by simp) ?_ (h3_low (row := zeroRow) (by simp [zeroRow]) (by simp) (by simp)) ?_
  · simp [BsEq, Bs.get, zeroRow, sct]
  · simp only [wk, ↓reduceIte, Nat.reduceEqDiff, reduceCtorEq, Nat.reduceLT]

theorem chR_le (s : ByteArray) (i : Nat) : chR s i ≤ 1114111 := by
  unfold chR
  split
  · omega
  · have := Go.Lib.rune_le s i; omega
theorem charsF_runes (s : ByteArray) : ∀ k i, Runes (charsF s k i)
  | 0, i => fun c hc => by cases hc
  | k + 1, i => by
    unfold charsF
    split
    · intro c hc
      rcases List.mem_cons.1 hc with rfl | hc
      · exact chR_le s i
      · exact charsF_runes s k _ c hc
    · exact fun c hc => by cases hc
theorem charsOf_runes (s : ByteArray) : Runes (charsOf s) := charsF_runes s _ _
theorem charsF_length (s : ByteArray) : ∀ k i, (charsF s k i).length ≤ k
  | 0, i => Nat.le_refl _
  | k + 1, i => by
    unfold charsF
    split
    · simp only [List.length_cons]; have := charsF_length s k (i + (Utf8.decode s i).2); omega
    · simp

/-- What the rest of Parse leaves. -/
def EndC (s : ByteArray) (k : Nat) : AX → Tm → Hp → Prop := fun ex tm hp => match parseF s with
  | .ok x => ex = .ret ∧ Wk k [] hp [] (H3 (x.cells.map .iv) (sct (.int .i64 s.size)) (sct (.int .i64 0)))
  | .error (c, a) => ex = .pan (errAt c a) ∧ ∃ l n e, l.length = 7 ∧ Wk k [] hp [] (H3 l n e)

theorem awpC (s : ByteArray) (hs : ¬ (s.size : Int) > 200) : awp prog 3 rcC (EndC s 3) (tm11 s) H3z := by
  have hO : OfC := fun r0 l hb => f67_ok sort_ok merge_ok r0 l hb
  have hl := charsF_length s (s.size + 1) 0
  rw [show charsF s (s.size + 1) 0 = charsOf s from rfl] at hl
  have hr := charsOf_runes s
  have hp : parseF s = match exprF ((charsOf s).length + 1) s.size (charsOf s) 0 with
    | .error e => .error e
    | .ok (x, cs, _) => if cs.length = 0 then .ok x else .error (2, atOf cs s.size) := by
      unfold parseF; rw [if_neg hs]
  simp only [oo, on, og, om, ol, oh, zN, ci, rcC, tm11, H3z, H3]
  simp -implicitDefEqProofs only [ev, ↓reduceIte, Nat.reduceAdd, Nat.reduceEqDiff, Nat.reduceSub, Nat.reduceBEq, Nat.reduceLeDiff, reduceCtorEq]
  refine acall_ret (f28_ok s (by omega)) ?_
  simp -implicitDefEqProofs only [ev, ↓reduceIte, Nat.reduceAdd, Nat.reduceEqDiff, Nat.reduceSub, Nat.reduceBEq, Nat.reduceLeDiff, reduceCtorEq]
  refine acall_mret (cs := charsOf s) (n := s.size) (g := 0) (f29_ok hO atoi_ok itoa_ok s.size (charsOf s) hr (by omega) 0 (by decide) (by decide)) (by simp) rfl (fun x cs1 g1 h1 => ?_) (fun c a h1 => ?_)
  · simp only [h1] at hp
    cases x with
    | mk k c a b z m ks =>
    simp only [encN, Nd.cells, List.map_cons, List.map_nil]
    simp only [Bs.without, List.contains, List.elem, beq_self_eq_true, if_true]
    simp -implicitDefEqProofs only [ev, ↓reduceIte, Nat.reduceAdd, Nat.reduceEqDiff, Nat.reduceSub, Nat.reduceBEq, Nat.reduceLeDiff, reduceCtorEq, List.contains_nil, List.contains_cons, Bool.or_false, Bool.false_eq_true, prow, zeroRow, Same]
    refine gcall_meq (f31_ok cs1 s.size g1) (by simp) rfl rfl ?_
    simp only [Bs.without, List.contains, List.elem, beq_self_eq_true, if_true]
    simp -implicitDefEqProofs only [ev, ↓reduceIte, Nat.reduceAdd, Nat.reduceEqDiff, Nat.reduceSub, Nat.reduceBEq, Nat.reduceLeDiff, reduceCtorEq, List.contains_nil, List.contains_cons, Bool.or_false, Bool.false_or, Bool.false_eq_true, if_true, prow, Same]
    refine ⟨.mk fun _ => ⟨rfl, rfl⟩, gcall_must _ _ rfl (fun h3 => ?_) (fun h3 => ?_)⟩
    · simp -implicitDefEqProofs only [ev, ↓reduceIte, Nat.reduceAdd, Nat.reduceEqDiff, Nat.reduceSub, Nat.reduceBEq, Nat.reduceLeDiff, reduceCtorEq, List.contains_nil, Bool.false_eq_true]
      have h4 : cs1.length = 0 := by simpa using h3
      rw [if_pos h4] at hp
      simp only [EndC, hp, true_and]
      refine wk_keep' (by simp) (by simp) ?_ (h3_low (by simp [Nd.cells]) (by simp) (by simp)) trivial
      simp [BsEq, Bs.get, sct, H3, Nd.cells]
    · simp -implicitDefEqProofs only [ev, ↓reduceIte, Nat.reduceAdd, Nat.reduceEqDiff, Nat.reduceSub, Nat.reduceBEq, Nat.reduceLeDiff, reduceCtorEq]
      have h4 : ¬ cs1.length = 0 := by simpa using h3
      rw [if_neg h4] at hp
      simp only [EndC, hp, true_and]
      refine ⟨(Nd.mk k c a b z m ks).cells.map .iv, sct (.int .i64 0), sct (.int .i64 0), rfl, wk_keep' (by simp) (by simp) ?_ (h3_low (by simp [Nd.cells]) (by simp) (by simp)) trivial⟩
      simp [BsEq, Bs.get, sct, Nd.cells]
  · simp only [h1] at hp
    simp only [Bs.without, List.contains, List.elem, beq_self_eq_true, if_true]
    simp -implicitDefEqProofs only [ev, ↓reduceIte, Nat.reduceAdd, Nat.reduceEqDiff, Nat.reduceSub, Nat.reduceBEq, Nat.reduceLeDiff, reduceCtorEq]
    simp only [EndC, hp, true_and]
    refine ⟨zeroRow, sct (.int .i64 0), sct (.int .i64 0), rfl, wk_keep' (by simp) (by simp) ?_ (h3_low (by simp [zeroRow]) (by simp) (by simp)) trivial⟩
    simp [BsEq, Bs.get, sct]
end Go.Av

set_option maxRecDepth 4000
namespace Go.Av
open Go.RowKit Go.Proofs.Tryz

theorem GW.h3 {H : Hp} {P : Program} {E : Ent P} {ρ : Rho} {w : World} (h : HInv E H ρ w) : GW P ρ w := E.gw.ext E.rep h.ext

/-- Out of the three cells. -/
theorem fin11 {ρ0 : Rho} {w0 : World} (hH : HRep Hp.nil ρ0 w0) (hG : GW prog ρ0 w0) {row : List AV} {n e : AV} {ρ : Rho} {w : World} (hI : HRep (H3 row n e) ρ w) (hE : Ext Hp.nil ρ0 w0 (H3 row n e) ρ w) {tmps : Array Value}
    (h2 : tmps.getD 2 undef = pOf ρ 0) (h3 : tmps.getD 3 undef = pOf ρ 1) (h4 : tmps.getD 4 undef = pOf ρ 2) (hr : row.length = 7) {Q : AE → Hp → Prop}
    (hf : Fin 0 Q (.tup [.agg row, .one n, .one e]) (H3 row n e)) :
    ∃ v, (results Go.Proofs.Tryz.f11 tmps).run prog w = .ok v w ∧ ∃ H' ρ' ae, Q ae H' ∧ ERep H' ρ' w ae (.returned v) ∧ HRep H' ρ' w ∧ Ext Hp.nil ρ0 w0 H' ρ' w := by
  have hT : TRep (H3 row n e) ρ w [(2, .one (.ptr 0 0 0 0)), (3, .one (.ptr 1 0 0 0)), (4, .one (.ptr 2 0 0 0))] ⟨tmps, []⟩ := by
    refine .cons' ?_ (.cons' ?_ (.cons' ?_ .nil'))
    · show LRep _ _ _ _ (tmps.getD 2 undef); rw [h2]; exact arep_p (show 0 < 3 by omega) rfl
    · show LRep _ _ _ _ (tmps.getD 3 undef); rw [h3]; exact arep_p (show 1 < 3 by omega) rfl
    · show LRep _ _ _ _ (tmps.getD 4 undef); rw [h4]; exact arep_p (show 2 < 3 by omega) rfl
  have har : ares [(2, .one (.ptr 0 0 0 0)), (3, .one (.ptr 1 0 0 0)), (4, .one (.ptr 2 0 0 0))] (H3 row n e) rs11 = some (True, .tup [.agg row, .one n, .one e]) := by
    obtain ⟨x0, x1, x2, x3, x4, x5, x6, rfl⟩ : ∃ x0 x1 x2 x3 x4 x5 x6, row = [x0, x1, x2, x3, x4, x5, x6] := by
      rcases row with _ | ⟨x0, _ | ⟨x1, _ | ⟨x2, _ | ⟨x3, _ | ⟨x4, _ | ⟨x5, _ | ⟨x6, _ | ⟨x7, r⟩⟩⟩⟩⟩⟩⟩⟩ <;> simp at hr
      exact ⟨_, _, _, _, _, _, _, rfl⟩
    simp only [rs11, H3]
    simp -implicitDefEqProofs only [ev, ↓reduceIte, Nat.reduceAdd, Nat.reduceEqDiff, Nat.reduceLeDiff, reduceCtorEq]
  obtain ⟨v, h1, h2⟩ := results_run hT hI (rsvRs_ok rs11_ok) har trivial
  exact ⟨v, h1, fin_sound (E := ⟨Hp.nil, ρ0, w0, hH, hG, [], 0, #[]⟩) hf ⟨hI, hE⟩ h2⟩

theorem fin3 {row : List AV} {n e : AV} {x : Nd} {a c : Int} (h : CvLV (H3 row n e) (.agg row) (encN x)) (hn : n = sct (.int .i64 a)) (he : e = sct (.int .i64 c)) {Q : AE → Hp → Prop} (hQ : Q (.ret (.tup [encN x, .one (sct (.int .i64 a)), .one (sct (.int .i64 c))])) Hp.nil) : Fin 0 Q (.tup [.agg row, .one n, .one e]) (H3 row n e) := by
  subst hn he
  refine fin_ret [] (.tup (.cons (by rw [Hp.prep_nil]; exact h) (.cons (.refl _) (.cons (.refl _) .nil)))) (.tup _ ?_) hQ
  intro y hy
  rcases List.mem_cons.1 hy with rfl | hy
  · exact encN_llow _
  · simp at hy; rcases hy with rfl | rfl <;> exact .one _ (by simp)

theorem ext_pOf {r r' : List AV} {n n' e e' : AV} {ρ ρ' : Rho} {w w' : World} (h : Ext (H3 r n e) ρ w (H3 r' n' e') ρ' w') : ∀ i, i < 3 → pOf ρ' i = pOf ρ i := by
  intro i hi
  have : ρ' i = ρ i := by
    obtain rfl | rfl | rfl : i = 0 ∨ i = 1 ∨ i = 2 := by omega
    · obtain ⟨_, _, _, _, hg, _, k⟩ := h.cells 0 7 0 [r'] false hi rfl
      cases hg; exact (k rfl).2.2
    · obtain ⟨_, _, _, _, hg, _, k⟩ := h.cells 1 1 0 [[n']] false hi rfl
      cases hg; exact (k rfl).2.2
    · obtain ⟨_, _, _, _, hg, _, k⟩ := h.cells 2 1 0 [[e']] false hi rfl
      cases hg; exact (k rfl).2.2
  simp only [pOf, this]

theorem cv_row {H : Hp} (x : Nd) : CvLV H (.agg (x.cells.map .iv)) (encN x) := .refl _

theorem fin_all (s : ByteArray) (hs : ¬ (s.size : Int) > 200) {ρ0 : Rho} {w0 : World} (hH : HRep Hp.nil ρ0 w0) (hG : GW prog ρ0 w0) {a2 : Act} {w2 : World} {ρ3 : Rho}
    (hS3 : SInv (P := prog) ⟨Hp.nil, ρ0, w0, hH, hG, [], 0, #[]⟩ 31 (tm11 s) H3z a2 w2 ρ3) : Code.wp prog (subC body11 [1, 1, 1])
    (bodyPostD prog Go.Proofs.Tryz.f11 fun e w' => ∃ H' ρ' ae, (ae = AE.ret (LV.tup [encN (parse3 s).1, LV.one (sct (Value.int IntKind.i64 (parse3 s).2.1)), LV.one (sct (Value.int IntKind.i64 (parse3 s).2.2))]) ∧ H' = Hp.nil) ∧
          ERep H' ρ' w' ae e ∧ HRep H' ρ' w' ∧ Ext Hp.nil ρ0 w0 H' ρ' w')
    { tmps := a2.tmps.setIfInBounds 10 (Value.func (Fn.func 27) #[] #[pOf ρ3 0, pOf ρ3 1, pOf ρ3 2]),
      defers := [{ target := Target.fn (Fn.func 27) #[pOf ρ3 0, pOf ρ3 1, pOf ρ3 2], args := #[] }] } w2 := by
  have e2 := ptr_pOf (hS3.tr 2 _ rfl) rfl
  have e3 := ptr_pOf (hS3.tr 3 _ rfl) rfl
  have e4 := ptr_pOf (hS3.tr 4 _ rfl) rfl
  have hG3 : GW prog ρ3 w2 := GW.h3 hS3.h
  generalize htm : a2.tmps.setIfInBounds 10 (Value.func (Fn.func 27) #[] #[pOf ρ3 0, pOf ρ3 1, pOf ρ3 2]) = tms
  have htg : ∀ t, t ≠ 10 → tms.getD t undef = a2.tmps.getD t undef := by
    intro t ht
    subst htm
    simp only [Array.getD_eq_getD_getElem?, Array.getElem?_setIfInBounds, if_neg (fun h => ht h.symm : ¬ 10 = t)]
  have hsz : tms.size = 31 := by subst htm; simpa using hS3.size
  have hwp := awp_sound (E := ⟨H3z, ρ3, w2, hS3.h.rep, hG3, [{ target := Target.fn (Fn.func 27) #[pOf ρ3 0, pOf ρ3 1, pOf ρ3 2], args := #[] }], 5, tms⟩) (n := 31) (rsvC_ok rcC_ok) (EndC s 3) (tm11 s) H3z ρ3
    { tmps := tms, defers := [{ target := Target.fn (Fn.func 27) #[pOf ρ3 0, pOf ρ3 1, pOf ρ3 2], args := #[] }] } w2 (awpC s hs)
    ⟨.cons' (by show LRep _ _ _ _ (tms.getD 0 undef); rw [htg 0 (by decide)]; exact hS3.tr 0 _ rfl) (.cons' (by show LRep _ _ _ _ (tms.getD 2 undef); rw [htg 2 (by decide)]; exact hS3.tr 2 _ rfl) (.cons' (by show LRep _ _ _ _ (tms.getD 3 undef); rw [htg 3 (by decide)]; exact hS3.tr 3 _ rfl) (.cons' (by show LRep _ _ _ _ (tms.getD 4 undef); rw [htg 4 (by decide)]; exact hS3.tr 4 _ rfl) .nil'))),
      ⟨hS3.h.rep, Ext.refl _ _ _⟩, hsz, rfl, fun _ _ => rfl⟩
  have pins : ∀ {tmps : Array Value} {r : List AV} {n e : AV} {ρ : Rho} {w : World}, (∀ t, t < 5 → tmps[t]? = tms[t]?) → Ext H3z ρ3 w2 (H3 r n e) ρ w → tmps.getD 2 undef = pOf ρ 0 ∧ tmps.getD 3 undef = pOf ρ 1 ∧ tmps.getD 4 undef = pOf ρ 2 := by
    intro tmps r n e ρ w hpin hE
    have k := ext_pOf hE
    rw [k 0 (by decide), k 1 (by decide), k 2 (by decide), ← e2, ← e3, ← e4]
    refine ⟨?_, ?_, ?_⟩
    · rw [← htg 2 (by decide), Array.getD_eq_getD_getElem?, hpin 2 (by decide), ← Array.getD_eq_getD_getElem?]
    · rw [← htg 3 (by decide), Array.getD_eq_getD_getElem?, hpin 3 (by decide), ← Array.getD_eq_getD_getElem?]
    · rw [← htg 4 (by decide), Array.getD_eq_getD_getElem?, hpin 4 (by decide), ← Array.getD_eq_getD_getElem?]
  refine wp_mono hwp ?_
  rintro ex a3 w3 hpo
  cases hpar : parseF s with
  | ok x =>
    have hp3 : parse3 s = (x, (s.size : Int), 0) := by simp [parse3, hpar]
    rw [hp3]
    cases ex with
    | ret =>
      obtain ⟨tm, hp, ρ4, hend, hS⟩ := hpo
      simp only [EndC, hpar] at hend
      obtain ⟨ρ5, hS5⟩ := wk_sound hend.2 ⟨.nil', hS.h, hS.size, hS.defers, hS.pin⟩
      show Leaves prog _ a3.tmps _ a3.defers .returning w3
      rw [hS5.defers]
      refine leaves_cons (f := 27) (args := #[pOf ρ3 0, pOf ρ3 1, pOf ρ3 2]) (by simp) (by simp [go_sem]) ?_
      refine (f27_idle hS5.h.rep (GW.h3 hS5.h) (pOf ρ3 0) (pOf ρ3 1) (pOf ρ3 2)).mono ?_
      rintro e' u' w4 ⟨rfl, rfl, ρ6, hR6, hE6⟩
      obtain ⟨p2, p3, p4⟩ := pins (tmps := a3.tmps) (fun t ht => hS5.pin t ht) (hS5.h.ext.trans hE6)
      exact fin11 hH hG hR6 (hS3.h.ext.trans (hS5.h.ext.trans hE6)) p2 p3 p4 (by simp [Nd.cells_length]) (fin3 (cv_row x) rfl rfl ⟨rfl, rfl⟩)
    | normal => obtain ⟨tm, hp, ρ1, h, hS⟩ := hpo; simp [EndC, hpar] at h
    | exit id => obtain ⟨tm, hp, ρ1, h, hS⟩ := hpo; simp [EndC, hpar] at h
    | panic c => obtain ⟨v, hp, ρ1, h, hS⟩ := hpo; simp [EndC, hpar] at h
    | goto => exact hpo.elim
    | outgrown => exact hpo.elim
  | error ca =>
    obtain ⟨c, at_⟩ := ca
    have hp3 : parse3 s = (emptyN, at_, c) := by simp [parse3, hpar]
    rw [hp3]
    cases ex with
    | panic ch =>
      obtain ⟨v, hp, ρ4, hend, rfl, hI, hd, hpin⟩ := hpo
      simp only [EndC, hpar, AX.pan.injEq] at hend
      obtain ⟨rfl, l, n, e, hl, hwk⟩ := hend
      obtain ⟨ρ5, hS5⟩ := wk_sound (n := 31) (a := { tmps := tms, defers := [{ target := Target.fn (Fn.func 27) #[pOf ρ3 0, pOf ρ3 1, pOf ρ3 2], args := #[] }] }) hwk ⟨.nil', hI, hsz, rfl, fun _ _ => rfl⟩
      obtain ⟨x0, x1, x2, x3, x4, x5, x6, rfl⟩ : ∃ x0 x1 x2 x3 x4 x5 x6, l = [x0, x1, x2, x3, x4, x5, x6] := by
        rcases l with _ | ⟨x0, _ | ⟨x1, _ | ⟨x2, _ | ⟨x3, _ | ⟨x4, _ | ⟨x5, _ | ⟨x6, _ | ⟨x7, r⟩⟩⟩⟩⟩⟩⟩⟩ <;> simp at hl
        exact ⟨_, _, _, _, _, _, _, rfl⟩
      show Leaves prog _ a3.tmps _ a3.defers (.panicking _) w3
      rw [hd]
      refine leaves_cons (f := 27) (args := #[pOf ρ3 0, pOf ρ3 1, pOf ρ3 2]) (by simp) (by simp [go_sem]) ?_
      have k := ext_pOf hS5.h.ext
      rw [← k 0 (by decide), ← k 1 (by decide), ← k 2 (by decide)]
      refine (f27_pan hS5.h.rep (GW.h3 hS5.h) c at_).mono ?_
      rintro e' u' w4 ⟨rfl, rfl, ρ6, hR6, hE6, _⟩
      obtain ⟨p2, p3, p4⟩ := pins (tmps := a3.tmps) (fun t ht => hpin t ht) (hS5.h.ext.trans hE6)
      exact fin11 hH hG hR6 (hS3.h.ext.trans (hS5.h.ext.trans hE6)) p2 p3 p4 rfl (fin3 cv_zero rfl rfl ⟨rfl, rfl⟩)
    | normal => obtain ⟨tm, hp, ρ1, h, hS⟩ := hpo; simp [EndC, hpar] at h
    | exit id => obtain ⟨tm, hp, ρ1, h, hS⟩ := hpo; simp [EndC, hpar] at h
    | ret => obtain ⟨v, hp, ρ1, h, hS⟩ := hpo; simp [EndC, hpar] at h
    | goto => exact hpo.elim
    | outgrown => exact hpo.elim

theorem f11_ok (s : ByteArray) : Ret prog 11 [.one (sct (.string s))] (.tup [encN (parse3 s).1, .one (sct (.int .i64 (parse3 s).2.1)), .one (sct (.int .i64 (parse3 s).2.2))]) := by
  refine ⟨?_, by simp, .tup _ ?_⟩
  · intro ρ0 w0 vs hG hH hvs hargs
    refine calls_of_wp_defers Go.Proofs.Tryz.func11 body11_eq ?_
    have h0 := awp_sound (E := ⟨Hp.nil, ρ0, w0, hH, hG, [], 0, #[]⟩) (n := 31) (rsvC_ok rcA_ok) _ _ _ ρ0 { tmps := vs ++ Array.replicate (31 - vs.size) undef, defers := [] } w0 (awpA s) ⟨.cons' ?_ .nil', ⟨hH, Ext.refl _ _ _⟩, by simp; simp at hvs; omega, rfl, fun t ht => absurd ht (Nat.not_lt_zero _)⟩
    · refine wp_seq (wp_mono h0 ?_)
      rintro ex a w1 hpo
      cases ex with
      | normal =>
        obtain ⟨tm, hp, ρ1, ⟨_, hwk⟩, hS⟩ := hpo
        obtain ⟨ρ1', hS1⟩ := wk_sound hwk hS
        show Code.wp prog _ _ a w1
        by_cases hs : (s.size : Int) > 200
        · have hp3 : parse3 s = (emptyN, 200, 3) := by simp [parse3, parseF, hs]
          refine wp_seq (wp_mono (awp_sound (E := ⟨Hp.nil, ρ0, w0, hH, hG, [], 0, #[]⟩) (n := 31) (rsvC_ok rcB_ok) _ _ _ _ a w1 (awpB1 s hs (Q := fun ae H => ae = .ret (.tup [encN (parse3 s).1, .one (sct (.int .i64 (parse3 s).2.1)), .one (sct (.int .i64 (parse3 s).2.2))]) ∧ H = Hp.nil) (by rw [hp3]; exact ⟨rfl, rfl⟩)) hS1) ?_)
          rintro ex a2 w2 hpo
          cases ex with
          | ret =>
            obtain ⟨tm2, hp2, ρ2, ⟨_, hb⟩, hS2⟩ := hpo
            simp only [body] at hb
            split at hb
            · rename_i p lv har
              obtain ⟨v, h1, h2⟩ := results_run hS2.tr hS2.h.rep (rsvRs_ok rs11_ok) har hb.1
              show Leaves prog _ a2.tmps _ a2.defers .returning w2
              rw [show a2.defers = [] from hS2.defers]
              exact ⟨v, h1, fin_sound (E := ⟨Hp.nil, ρ0, w0, hH, hG, [], 0, #[]⟩) hb.2 hS2.h h2⟩
            · exact hb.elim
          | normal => obtain ⟨tm, hp, ρ1, ⟨h, _⟩, hS⟩ := hpo; cases h
          | exit id => obtain ⟨tm, hp, ρ1, ⟨h, _⟩, hS⟩ := hpo; cases h
          | panic c => obtain ⟨v, hp, ρ1, ⟨h, _⟩, hS⟩ := hpo; cases h
          | goto => exact hpo.elim
          | outgrown => exact hpo.elim
        · refine wp_seq (wp_mono (awp_sound (E := ⟨Hp.nil, ρ0, w0, hH, hG, [], 0, #[]⟩) (n := 31) (rsvC_ok rcB_ok) _ _ _ _ a w1 (awpB2 s hs) hS1) ?_)
          rintro ex a2 w2 hpo
          cases ex with
          | normal =>
            obtain ⟨tm2, hp2, ρ2, ⟨_, hwk2⟩, hS2⟩ := hpo
            obtain ⟨ρ3, hS3⟩ := wk_sound hwk2 hS2
            show Code.wp prog _ _ a2 w2
            apply wp_seq
            rw [show subC body11 [1, 1, 0] = _ from rfl]
            apply wp_region
            have hsz : 10 < a2.tmps.size := by rw [hS3.size]; decide
            have e2 := ptr_pOf (hS3.tr 2 _ rfl) rfl
            have e3 := ptr_pOf (hS3.tr 3 _ rfl) rfl
            have e4 := ptr_pOf (hS3.tr 4 _ rfl) rfl
            have hd := hS3.defers
            simp only [Array.getD_eq_getD_getElem?] at e2 e3 e4
            simp [wpOps, go_sem, Exit.then, hsz, e2, e3, e4, hd]
            refine .inl (.inl ?_)
            exact fin_all s hs hH hG hS3
          | ret => obtain ⟨tm, hp, ρ1, ⟨h, _⟩, hS⟩ := hpo; cases h
          | exit id => obtain ⟨tm, hp, ρ1, ⟨h, _⟩, hS⟩ := hpo; cases h
          | panic c => obtain ⟨v, hp, ρ1, ⟨h, _⟩, hS⟩ := hpo; cases h
          | goto => exact hpo.elim
          | outgrown => exact hpo.elim
      | ret => obtain ⟨tm, hp, ρ1, ⟨h, _⟩, hS⟩ := hpo; cases h
      | exit id => obtain ⟨tm, hp, ρ1, ⟨h, _⟩, hS⟩ := hpo; cases h
      | panic c => obtain ⟨v, hp, ρ1, ⟨h, _⟩, hS⟩ := hpo; cases h
      | goto => exact hpo.elim
      | outgrown => exact hpo.elim
    · obtain ⟨u, hu, hr⟩ := hargs 0 _ rfl
      have hlt := (Array.getElem?_eq_some_iff.1 hu).1
      show LRep _ _ _ _ (Array.getD (vs ++ _) 0 undef)
      rw [Array.getD_eq_getD_getElem?, Array.getElem?_append_left hlt, hu]
      exact hr
  · intro y hy
    rcases List.mem_cons.1 hy with rfl | hy
    · exact encN_llow _
    · simp at hy; rcases hy with rfl | rfl <;> exact .one _ (by simp)
end Go.Av

