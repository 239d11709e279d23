/-
  From the reading of a row to the layer: the laid variables, slices of bytes; no condition.
-/
import Derived.Test.YtoomnhcglmnajaaGreatDoorAvThree
import Derived.Test.YtoomnhcglmnajaaGreatDoorAvNine
import Derived.ChangeSlices
import Derived.Test.YtoomnhcglmnajaaGreatDoorTie
import Derived.ProofKit
import Derived.OpenShut
import Derived.ShutString
import Derived.ChangeOld
import Derived.Below
import Derived.SizedLaws
import Derived.LaidMore
import Derived.Stop.Joined
import Derived.Stop.LaidErr
import Derived.SevenTiedAt
set_option linter.unusedVariables false
set_option linter.unusedSimpArgs false
namespace Go.Av
open Go.ChangeShapes Go.WideShapes Go.ChangeAt Go.RowKit Go.Proofs

/-! ### the frame of a law: from the row's reading to the layer -/
theorem own : ownKnob Tryz.prog.godebug = none := by kernel_rfl
theorem laidOut : laidOutB Tryz.prog = true := by kernel_rfl

/-- The variables as the row lists them. -/
abbrev laidL : List (String × DataW Unit) := Go.Proofs.YtoomnhcglmnajaaGreatDoor.Rows.syntaxBackRow.laid
theorem laidL_eq : laidL = [("math/bits.deBruijn32tab", Go.Proofs.YtoomnhcglmnajaaGreatDoor.Rows.laid_math_bits_deBruijn32tab), ("math/bits.deBruijn64tab", Go.Proofs.YtoomnhcglmnajaaGreatDoor.Rows.laid_math_bits_deBruijn64tab), ("internal/strconv.uint64pow10", Go.Proofs.YtoomnhcglmnajaaGreatDoor.Rows.laid_internal_strconv_uint64pow10), ("strconv.ErrRange", Go.Proofs.YtoomnhcglmnajaaGreatDoor.Rows.laid_strconv_ErrRange), ("strconv.ErrSyntax", Go.Proofs.YtoomnhcglmnajaaGreatDoor.Rows.laid_strconv_ErrSyntax)] := rfl

theorem gSyn : Tryz.prog.globalNamed "strconv.ErrSyntax" = some (Tryz.lAtoi_ren.g 15) := errSyntax_var
theorem gRan : Tryz.prog.globalNamed "strconv.ErrRange" = some (Tryz.lAtoi_ren.g 16) := errRange_var

theorem door_met (os : Os) (args : Array Value) : laidMetH Tryz.prog laidL ((World.doorLaid Tryz.prog 62 os).forCall (fun _ _ => 0) ⟨#[], args, []⟩).memory :=
  laidMetH_of_parts3 (fuel := 8) (laidMet_of_run' 8 (by kernel_rfl) (by kernel_rfl)) (by kernel_rfl) (by kernel_rfl)

theorem star : ("*errors.errorString" : String) = "*" ++ "errors.errorString" := by decide
theorem tpErr (u : TypeId) (h : Tryz.prog.typeName? 3 u = some "*errors.errorString") : u = 191 :=
  typeName_ptr_named (nm := "errors.errorString") (by rw [← star]; kernel_rfl) (by kernel_rfl) (by decide) u (by rw [← star]; exact h)
theorem gw_of_laid {W : World} (h : laidMetH Tryz.prog laidL W) : ∀ g, ErrVar Tryz.prog g → ∃ a, (∀ i, W.cell? ⟨g, i, none⟩ = #[Value.iface 191 (.pointer (some a))][i]?) := by
  rw [MakeChecks.laidMetH_plain _ _ _ (by kernel_rfl), laidL_eq] at h
  obtain ⟨a3, s3, h3, _⟩ := laid_sentinel h.tail.tail.tail gRan (ti := 117) (tp := 191) (te := 193) (ts := 9) (by kernel_rfl) Tryz.underlying117 tpErr Tryz.underlying191 Tryz.underlying193 rfl rfl Tryz.underlying9 (by kernel_rfl) (by kernel_rfl)
  obtain ⟨a2, s2, h2, _⟩ := laid_sentinel h.tail.tail.tail.tail gSyn (ti := 117) (tp := 191) (te := 193) (ts := 9) (by kernel_rfl) Tryz.underlying117 tpErr Tryz.underlying191 Tryz.underlying193 rfl rfl Tryz.underlying9 (by kernel_rfl) (by kernel_rfl)
  rintro g (hg | hg)
  · obtain rfl := Option.some.inj (gSyn.symm.trans hg)
    exact ⟨a2, fun i => World.var?_cell gSyn h2 i⟩
  · obtain rfl := Option.some.inj (gRan.symm.trans hg)
    exact ⟨a3, fun i => World.var?_cell gRan h3 i⟩

/-- Where a law begins: nothing of its own; the error variables stay. -/
def rho0 : Rho := ⟨fun _ => ⟨0, 0, 0, true⟩, fun g => ErrVar Tryz.prog g⟩
theorem hrep0 {W : World} (h : laidMetH Tryz.prog laidL W) : HRep Hp.nil rho0 W := by
  have no : ∀ (b : Nat) (x : Blk), (Hp.nil).bs.get b = some x → False := by intro b x h; cases h
  refine ⟨fun g hg => ?_, fun b x h => (no b x h).elim, fun b x h => (no b x h).elim, fun b x h => (no b x h).elim, fun b x h => (no b x h).elim, fun b b' x x' h => (no b x h).elim⟩
  obtain ⟨a, ha⟩ := gw_of_laid h g hg
  exact cell_lt (ha 0)
theorem gw0 {W : World} (h : laidMetH Tryz.prog laidL W) : GW Tryz.prog rho0 W := by
  intro g hg
  obtain ⟨a, ha⟩ := gw_of_laid h g hg
  exact ⟨hg, _, ha 0, .inr ⟨_, _, rfl⟩⟩
theorem mut0 {g : Nat} (h : Mut Hp.nil.bs rho0 g) : ErrVar Tryz.prog g := by
  rcases h with h | ⟨b, x, h, _⟩
  · exact h
  · cases h

theorem below_of_ext {H' : Hp} {ρ' : Rho} {W W' : World} (e : Ext Hp.nil rho0 W H' ρ' W') : Below W.heap.size W W' :=
  ⟨e.os, e.tape, e.output, e.size, fun k hk => e.keeps k hk (by rintro ⟨b, x, h, _⟩; cases h)⟩

/-- A law that answers true. -/
theorem law_calls {f : FuncId} {args : List LV} (h : Ret Tryz.prog f args (.one (sct (.bool true)))) {W : World} (hL : laidMetH Tryz.prog laidL W) {vs : Array Value} (hs : vs.size = args.length)
    (ha : ∀ (i : Nat) (lv : LV), args[i]? = some lv → ∃ u, vs[i]? = some u ∧ LRep Hp.nil rho0 W lv u) : Calls Tryz.prog f vs W fun e W' => e = .returned (.bool true) ∧ Below W.heap.size W W' := by
  refine (h.calls rho0 W vs (gw0 hL) (hrep0 hL) hs ha).mono ?_
  rintro e W' ⟨H', ρ', ae, ⟨rfl, rfl⟩, he, _, hx⟩
  refine ⟨?_, below_of_ext hx⟩
  cases e with
  | returned v => have := LRep.scI he; rw [this]
  | panicked c => exact he.elim
  | outgrown => exact he.elim

/-- A slice of bytes that came in. -/
theorem bytes_in {H : Type} {enc : TypeId × Value → H} {W : World} (hL : laidMetH Tryz.prog laidL W) {base : Nat} {sp : Nat → Bool} {held : Bool} {a : Option Addr} {len cap : Nat} {d : DataW H} {p : List MemPlace} (h : DataW.Trod enc Tryz.prog W base sp held 27 (.slice a len cap) d p) (hlen : len ≤ 140737488351232) :
    ∃ l : List Int, (∀ b ∈ l, 0 ≤ b) ∧ LRep Hp.nil rho0 W (.one (.iv (.sl 1 (l.map u8Row)))) (.slice a len cap) := by
  obtain ⟨fuel, hf⟩ := h
  rcases open_ints Tryz.underlying27 Tryz.underlying5 (by kernel_rfl) hf with ⟨hcs, _⟩ | ⟨x, l, c, zs, hcs, _, hl, hm, hz, _, hcell, hwz⟩
  · simp [Value.cells] at hcs
    obtain ⟨rfl, rfl, rfl⟩ := hcs
    refine ⟨[], by simp, .one _ _ (.iv _ _ ?_)⟩
    exact .sl 1 [] none 0 0 0 (fun _ _ => undef) (by simp) (by simp) (by simp) (by simp) (by simp) (by simp)
  · simp [Value.cells] at hcs
    obtain ⟨rfl, rfl, rfl⟩ := hcs
    have hlz : len ≤ zs.length := by rw [hz]; split <;> omega
    have hzl : (zs.take len).length = len := by rw [List.length_take]; omega
    refine ⟨zs.take len, fun b hb => ?_, .one _ _ (.iv _ _ ?_)⟩
    · have := hwz b (List.mem_of_mem_take hb)
      simp [Lit.wf, IntKind.min] at this
      have h1 := of_decide_eq_true this.1
      exact h1
    · have hrl : ((zs.take len).map u8Row).length = len := by rw [List.length_map, hzl]
      have key : ∀ i, i < len → W.cell? ⟨x.block, x.off + i, none⟩ = some (.int .u8 (zs.getD i 0)) := by
        intro i hi
        have h0 := hcell 0 (by omega)
        have hi' := hcell i (by omega)
        have hsp : x.spot = none := by
          cases hs : x.spot with
          | none => rfl
          | some q =>
            simp only [Addr.add, if_true, World.cell?, hs, Option.isSome_some] at h0
            split at h0 <;> cases h0
        obtain ⟨xb, xo, xs⟩ := x
        simp only at hsp
        subst hsp
        rw [add_none] at hi'
        exact hi'
      have hrow : ∀ (j : Nat) (row : List IV), ((zs.take len).map u8Row)[j]? = some row → j < len ∧ row = [.sc (.int .u8 (zs.getD j 0))] := by
        intro j row hj
        rw [List.getElem?_map] at hj
        obtain ⟨b, hb, rfl⟩ := Option.map_eq_some_iff.1 hj
        have hjl : j < len := by
          have := (List.getElem?_eq_some_iff.1 hb).1
          omega
        rw [List.getElem?_take_of_lt hjl] at hb
        refine ⟨hjl, ?_⟩
        simp [u8Row, List.getD, hb]
      have hx : 0 < len → x = ⟨x.block, x.off, none⟩ := by
        intro h0
        have hc := hcell 0 (by omega)
        cases hs : x.spot with
        | none => cases x; simp only at hs; subst hs; rfl
        | some q =>
          simp only [Addr.add, if_true, World.cell?, hs, Option.isSome_some] at hc
          split at hc <;> cases hc
      have := IRep.sl (M := Mut Hp.nil.bs rho0) (w := W) 1 ((zs.take len).map u8Row) (some x) cap x.block x.off (fun j _ => .int .u8 (zs.getD j 0)) ?_ ?_ ?_ ?_ ?_ ?_
      · rw [hrl] at this; exact this
      · intro j row hj; obtain ⟨_, rfl⟩ := hrow j row hj; rfl
      · rw [hrl]; omega
      · rw [hrl]; exact hl
      · rw [hrl]
        intro h0
        refine ⟨by rw [← hx h0], ?_, cell_lt (a := ⟨x.block, x.off + 0, none⟩) (key 0 h0)⟩
        intro hm
        obtain ⟨a, ha⟩ := gw_of_laid hL _ (mut0 hm)
        have k0 := key 0 h0
        have := ha (x.off + 0)
        rw [k0] at this
        cases hq : x.off + 0 with
        | zero => rw [hq] at this; simp at this
        | succ n => rw [hq] at this; simp at this
      · intro j row i y hj hy
        obtain ⟨hjl, rfl⟩ := hrow j row hj
        rcases i with _ | i
        · have := key j hjl; simp only [Nat.mul_one, Nat.add_zero]; exact this
        · simp at hy
      · intro j row i y hj hy
        obtain ⟨hjl, rfl⟩ := hrow j row hj
        rcases i with _ | i
        · simp at hy; subst hy; exact .sc _ rfl
        · simp at hy

theorem sized_bytes {H : Type} {enc : TypeId × Value → H} {W : World} {base : Nat} {sp : Nat → Bool} {held : Bool} {a : Option Addr} {len cap : Nat} {d : DataW H} {p : List MemPlace} {ts : List TypeId} {ds : List (DataW H)} {j : Nat}
    (hsz : (DataW.weightsEach Tryz.prog ts ds).all (· ≤ reachBytes) = true) (ht : ts[j]? = some 27) (hd : ds[j]? = some d)
    (h : DataW.Trod enc Tryz.prog W base sp held 27 (.slice a len cap) d p) : len ≤ 140737488351232 := by
  obtain ⟨fuel, hf⟩ := h
  rcases open_ints Tryz.underlying27 Tryz.underlying5 (by kernel_rfl) hf with ⟨hcs, _⟩ | ⟨x, l, c, zs, hcs, _, hl, _, hz, hx, _, _⟩
  · simp [Value.cells] at hcs
    obtain ⟨rfl, rfl, rfl⟩ := hcs
    omega
  · simp [Value.cells] at hcs
    obtain ⟨rfl, rfl, rfl⟩ := hcs
    obtain ⟨hx, _⟩ := Prod.mk.inj hx
    subst hx
    have z := sized_slice hsz ht hd Tryz.underlying27
    rw [show Tryz.prog.bytesOf 5 = 1 by kernel_rfl] at z
    have hl2 : len ≤ zs.length := by rw [hz]; split <;> omega
    have h1 : (lits (H := H) .u8 (zs.take len)).length + (lits (H := H) .u8 (zs.drop len)).length = zs.length := by
      simp [lits]; omega
    have hr : reachBytes = 140737488351232 := by decide
    omega

end Go.Av

