/-
  Contracts of functions of values alone, and the evaluation lemmas as one theorem; no condition.
-/
import Derived.Test.YtoomnhcglmnajaaGreatDoorAvTwo
set_option linter.unusedVariables false
set_option linter.unusedSimpArgs false
namespace Go.Av
open Go.RowKit

/-! ### heaps with nothing, calls with nothing to write -/
def Hp.nil : Hp := ⟨[], 0⟩

theorem Bs.freeze_nil (l : Bs) : Bs.freeze [] l = l := by
  induction l with
  | nil => rfl
  | cons p r ih =>
    obtain ⟨b, x⟩ := p
    simp only [Bs.freeze, ih]
    cases x <;> simp

theorem Hp.prep_nil (hp : Hp) : hp.prep [] [] = hp := by simp [Hp.prep, Hp.ghost, Hp.freeze, Bs.freeze_nil]
theorem Bs.without_nil (l : Bs) : Bs.without [] l = l := by
  induction l with
  | nil => rfl
  | cons p r ih => simp [Bs.without, ih]
theorem Hp.back_nil (hp : Hp) : hp.back [] Hp.nil = hp := by simp [Hp.back, Hp.nil, Bs.ren, Bs.without_nil]

mutual
theorem AV.ren_low {f : Nat → Nat} {n : Nat} (hf : ∀ i, i < n → f i = i) : ∀ {x : AV}, Low n x → x.ren f = x
  | .iv _, _ => rfl
  | .own b ver off len, h => by cases h with | own _ _ _ _ h => simp [AV.ren, hf _ h]
  | .ptr b ver i j, h => by cases h with | ptr _ _ _ _ h => simp [AV.ren, hf _ h]
  | .ip _ _, _ => rfl
  | .it b, h => by cases h with | it _ h => simp [AV.ren, hf _ h]
  | .mp b, h => by cases h with | mp _ h => simp [AV.ren, hf _ h]
  | .fn g caps, h => by
    cases h with
    | fn _ _ h => simp only [AV.ren, rens_low hf h]
  | .junk, _ => rfl
theorem rens_low {f : Nat → Nat} {n : Nat} (hf : ∀ i, i < n → f i = i) : ∀ {l : List AV}, (∀ x ∈ l, Low n x) → rens f l = l
  | [], _ => rfl
  | x :: r, h => by
    rw [rens, AV.ren_low hf (h x (by simp)), rens_low hf (fun y hy => h y (by simp [hy]))]
end

theorem LV.ren_low {f : Nat → Nat} {n : Nat} (hf : ∀ i, i < n → f i = i) {x : LV} (h : LLow n x) : x.ren f = x := by
  cases h with
  | one x h => simp only [LV.ren, AV.ren_low hf h]
  | agg cs h => simp only [LV.ren, rens_low hf h]

theorem lrens_low {f : Nat → Nat} {n : Nat} (hf : ∀ i, i < n → f i = i) : ∀ {l : List LV}, (∀ x ∈ l, LLow n x) → lrens f l = l
  | [], _ => rfl
  | x :: r, h => by
    rw [lrens, LV.ren_low hf (h x (by simp)), lrens_low hf (fun y hy => h y (by simp [hy]))]

theorem LV.ren_lowR {f : Nat → Nat} {n : Nat} (hf : ∀ i, i < n → f i = i) {x : LV} (h : LLowR n x) : x.ren f = x := by
  cases h with
  | lv x h => exact LV.ren_low hf h
  | tup l h => simp only [LV.ren, lrens_low hf h]

/-- A call that reads values alone, and answers with one. -/
structure Ret (P : Program) (f : FuncId) (args : List LV) (lv : LV) : Prop where
  calls : CallsA P f args Hp.nil (fun ae hp => ae = .ret lv ∧ hp = Hp.nil)
  low : ∀ x ∈ args, LLow 0 x
  lowR : LLowR 0 lv

/-- So, but it may panic. -/
structure RetP (P : Program) (f : FuncId) (args : List LV) (ae : AE) : Prop where
  calls : CallsA P f args Hp.nil (fun a hp => a = ae ∧ hp = Hp.nil)
  low : ∀ x ∈ args, LLow 0 x
  lowR : ∀ lv, ae = .ret lv → LLowR 0 lv

theorem sub_nil (hp : Hp) : Sub [] hp Hp.nil := ⟨List.nodup_nil, by simp, rfl, by simp [Hp.nil, Bs.get], by simp [Hp.nil, Bs.get]⟩
theorem closed_nil : Closed Hp.nil := by intro b sz ver rows fz h; cases h

theorem CvLVs.refl {H : Hp} : ∀ l, CvLVs H l l
  | [] => .nil
  | x :: r => .cons (.refl x) (CvLVs.refl r)

theorem acall_retp {P : Program} {f : FuncId} {args args0 : List LV} {ae : AE} {hp : Hp} {K : LV → Hp → Prop} {Kp : Value → Hp → Prop} (fz : List Nat) (h : RetP P f args0 ae) (hc : CvLVs (hp.prep fz []) args args0)
    (hk : match ae with
      | .ret lv => K lv (hp.prep fz [])
      | .pan v => Kp v (hp.prep fz [])) : acall P f args hp K Kp := by
  refine ⟨fz, [], [], Hp.nil, args0, _, h.calls, by simp, sub_nil _, closed_nil, h.low, ?_, ?_⟩
  · rw [lrens_low (n := 0) (by simp) h.low]; exact hc
  · rintro ae' H' ⟨rfl, rfl⟩
    rw [Hp.back_nil]
    cases ae' with
    | ret lv => simp only; rw [LV.ren_lowR (n := 0) (by simp) (h.lowR _ rfl)]; exact hk
    | pan v => exact hk

theorem Ret.p {P : Program} {f : FuncId} {args : List LV} {lv : LV} (h : Ret P f args lv) : RetP P f args (.ret lv) := ⟨h.calls, h.low, fun _ e => by cases e; exact h.lowR⟩

theorem acall_ret_fz {P : Program} {f : FuncId} {args args0 : List LV} {lv : LV} {hp : Hp} {K : LV → Hp → Prop} {Kp : Value → Hp → Prop} (fz : List Nat) (h : Ret P f args0 lv) (hc : CvLVs (hp.prep fz []) args args0)
    (hk : K lv (hp.prep fz [])) : acall P f args hp K Kp := acall_retp fz h.p hc hk

theorem acall_ret {P : Program} {f : FuncId} {args : List LV} {lv : LV} {hp : Hp} {K : LV → Hp → Prop} {Kp : Value → Hp → Prop} (h : Ret P f args lv) (hk : K lv hp) : acall P f args hp K Kp :=
  acall_ret_fz [] h (CvLVs.refl _) (by rw [Hp.prep_nil]; exact hk)

theorem fin_ret {lv lv0 : LV} {hp : Hp} {Q : AE → Hp → Prop} (fz : List Nat) (hc : CvR (hp.prep fz []) lv lv0) (hl : LLowR 0 lv0) (hq : Q (.ret lv0) Hp.nil) : Fin 0 Q lv hp :=
  ⟨fz, [], [], lv0, Hp.nil, by simp, sub_nil _, closed_nil, by simp, hl, by rw [LV.ren_lowR (n := 0) (by simp) hl]; exact hc, hq⟩

theorem fin_same {lv : LV} {hp : Hp} {Q : AE → Hp → Prop} (hl : LLowR 0 lv) (hq : Q (.ret lv) Hp.nil) : Fin 0 Q lv hp := fin_ret [] (.lv (.refl _)) hl hq

theorem finp_same {v : Value} {hp : Hp} {Q : AE → Hp → Prop} (hq : Q (.pan v) Hp.nil) : FinP 0 Q v hp :=
  ⟨[], [], [], Hp.nil, by simp, sub_nil _, closed_nil, by simp, hq⟩

/-- A function that reads values alone, out of its body. -/
theorem Ret.of {P : Program} {f : FuncId} {imm : Nat → Bool} {r : RF} (hr : rsvF P f imm = some r) {args : List LV} {lv : LV} (hl : ∀ x ∈ args, LLow 0 x) (hlv : LLowR 0 lv) (hn : args.length ≤ r.n)
    (h : awp P 0 r.body (body P r.rs 0 (fun ae hp => ae = .ret lv ∧ hp = Hp.nil)) (initTm 0 args) Hp.nil) : Ret P f args lv :=
  ⟨calls_of_rsv hr hn h, hl, hlv⟩

/-! ### a loop's head -/
def WkL (hp' : Hp) (f : Nat → Nat) (n : Nat) (tm : Tm) : Tm → Prop
  | [] => True
  | (t, lv) :: r => (LLow n lv ∧ ∃ lv', tm.get t = some lv' ∧ CvLV hp' lv' (lv.ren f)) ∧ WkL hp' f n tm r

theorem WkL.get {hp' : Hp} {f : Nat → Nat} {n : Nat} {tm : Tm} : ∀ {tm0 : Tm}, WkL hp' f n tm tm0 → ∀ t lv, tm0.get t = some lv → LLow n lv ∧ ∃ lv', tm.get t = some lv' ∧ CvLV hp' lv' (lv.ren f)
  | [], _, t, lv, h => by cases h
  | (a, x) :: r, hw, t, lv, h => by
    simp only [Tm.get] at h
    split at h
    · rename_i e
      simp only [Option.some.injEq] at h
      subst e; subst h
      exact hw.1
    · exact WkL.get hw.2 t lv h

theorem grantT_known {p : Prop} {A : Unit → Prop} (h : p) : grantT p A = A () := by simp [grantT, h]
theorem grantT.mk {p : Prop} {A : Unit → Prop} (h : p → A ()) : grantT p A := h
theorem boolNot_t : (!true) = false := rfl
theorem boolNot_f : (!false) = true := rfl
theorem beqKnd (k : IntKind) : (k = k) = True := by simp

@[simp] theorem LLow.one_iff {n : Nat} {x : AV} : LLow n (.one x) ↔ Low n x := ⟨fun h => by cases h; assumption, .one x⟩
@[simp] theorem LLow.agg_iff {n : Nat} {l : List AV} : LLow n (.agg l) ↔ ∀ x ∈ l, Low n x := ⟨fun h => by cases h; assumption, .agg l⟩
@[simp] theorem Low.iv_iff {n : Nat} {x : IV} : Low n (.iv x) ↔ True := ⟨fun _ => trivial, fun _ => .iv x⟩
@[simp] theorem Low.ip_iff {n : Nat} {l : List IV} {j : Nat} : Low n (.ip l j) ↔ True := ⟨fun _ => trivial, fun _ => .ip l j⟩
@[simp] theorem Low.sct_iff {n : Nat} {x : Value} : Low n (sct x) ↔ True := ⟨fun _ => trivial, fun _ => .iv _⟩
@[simp] theorem Low.own_iff {n b ver off len : Nat} : Low n (.own b ver off len) ↔ b < n := ⟨fun h => by cases h; assumption, .own b ver off len⟩
@[simp] theorem Low.ptr_iff {n b ver i j : Nat} : Low n (.ptr b ver i j) ↔ b < n := ⟨fun h => by cases h; assumption, .ptr b ver i j⟩
@[simp] theorem Low.it_iff {n b : Nat} : Low n (.it b) ↔ b < n := ⟨fun h => by cases h; assumption, .it b⟩
@[simp] theorem Low.fn_iff {n : Nat} {f : Fn} {l : List AV} : Low n (.fn f l) ↔ ∀ x ∈ l, Low n x := ⟨fun h => by cases h; assumption, .fn f l⟩
theorem LLowR.one {n : Nat} {x : AV} (h : Low n x) : LLowR n (.one x) := .lv _ (.one x h)
theorem LLowR.agg {n : Nat} {l : List AV} (h : ∀ x ∈ l, Low n x) : LLowR n (.agg l) := .lv _ (.agg l h)

/-- What a round of a loop owes. -/
def loopK {σ : Type} (k : Nat) (St : σ → Tm) (Hs : σ → Hp) (Inv : σ → Prop) (μ : σ → Nat) (s : σ) (Q : AX → Tm → Hp → Prop) : AX → Tm → Hp → Prop := fun e tm' hp' => match e with
    | .normal => ∃ s', Inv s' ∧ μ s' < μ s ∧ Wk k tm' hp' (St s') (Hs s')
    | e => Q e tm' hp'
section
variable {σ : Type} (k : Nat) (St : σ → Tm) (Hs : σ → Hp) (Inv : σ → Prop) (μ : σ → Nat) (s : σ) (Q : AX → Tm → Hp → Prop) (tm : Tm) (hp : Hp)
theorem loopK_normal : loopK k St Hs Inv μ s Q .normal tm hp = ∃ s', Inv s' ∧ μ s' < μ s ∧ Wk k tm hp (St s') (Hs s') := rfl
theorem loopK_exit (i : Nat) : loopK k St Hs Inv μ s Q (.exit i) tm hp = Q (.exit i) tm hp := rfl
theorem loopK_ret : loopK k St Hs Inv μ s Q .ret tm hp = Q .ret tm hp := rfl
theorem loopK_pan (v : Value) : loopK k St Hs Inv μ s Q (.pan v) tm hp = Q (.pan v) tm hp := rfl
end

/-- A loop whose state is told by a parameter. -/
theorem aloop_mk {σ : Type} (St : σ → Tm) (Hs : σ → Hp) (Inv : σ → Prop) (μ : σ → Nat) (s0 : σ) {k : Nat} {b : (AX → Tm → Hp → Prop) → Tm → Hp → Prop} {Q : AX → Tm → Hp → Prop} {tm : Tm} {hp : Hp}
    (h0 : Inv s0) (hw : Wk k tm hp (St s0) (Hs s0))
    (h : ∀ s, Inv s → b (loopK k St Hs Inv μ s Q) (St s) (Hs s)) : aloop k b Q tm hp := ⟨σ, St, Hs, Inv, μ, ⟨s0, h0, hw⟩, h⟩

/-! ### the same state, less of it -/
def WkEq (n : Nat) (tm : Tm) : Tm → Prop
  | [] => True
  | (t, lv) :: r => (LLow n lv ∧ tm.get t = some lv) ∧ WkEq n tm r
def BsEq (n : Nat) (bs : Bs) : Bs → Prop
  | [] => True
  | (b, x) :: r => (b < n ∧ bs.get b = some x) ∧ BsEq n bs r

theorem WkEq.get {n : Nat} {tm : Tm} : ∀ {tm0 : Tm}, WkEq n tm tm0 → ∀ t lv, tm0.get t = some lv → LLow n lv ∧ tm.get t = some lv
  | [], _, t, lv, h => by cases h
  | (a, x) :: r, hw, t, lv, h => by
    simp only [Tm.get] at h
    split at h
    · rename_i e
      simp only [Option.some.injEq] at h
      subst e; subst h
      exact hw.1
    · exact WkEq.get hw.2 t lv h

theorem BsEq.get {n : Nat} {bs : Bs} : ∀ {bs0 : Bs}, BsEq n bs bs0 → ∀ b x, Bs.get bs0 b = some x → b < n ∧ bs.get b = some x
  | [], _, t, lv, h => by cases h
  | (a, x) :: r, hw, t, lv, h => by
    simp only [Bs.get] at h
    split at h
    · rename_i e
      simp only [Option.some.injEq] at h
      subst e; subst h
      exact hw.1
    · exact BsEq.get hw.2 t lv h

theorem ridx_range {m base b : Nat} (h : b < m) : ridx (List.range m) base b = b := by simp [ridx, h]

theorem Blk.ren_low {f : Nat → Nat} {n : Nat} (hf : ∀ i, i < n → f i = i) {x : Blk} (h : ∀ sz ver rows fz, x = .cells sz ver rows fz → ∀ row ∈ rows, ∀ z ∈ row, Low n z) : x.ren f = x := by
  cases x with
  | cells sz ver rows fz =>
    simp only [Blk.ren, Blk.cells.injEq, true_and, and_true]
    have e : rows.map (rens f) = rows.map id := List.map_congr_left fun row hr => rens_low hf (h sz ver rows fz rfl row hr)
    rw [e, List.map_id]
  | iter => rfl
  | map => rfl

theorem wk_keep {k m : Nat} {tm tm0 : Tm} {hp : Hp} {bs0 : Bs} (hm : m ≤ hp.nxt) (hk : k ≤ m) (hb : BsEq m hp.bs bs0) (hc : Closed ⟨bs0, m⟩) (h : WkEq m tm tm0) : Wk k tm hp tm0 ⟨bs0, m⟩ := by
  refine ⟨[], [], List.range m, by simp, ?_, hc, fun b hbk => by rw [List.getElem?_range (by omega)], fun t lv ht => ?_⟩
  · rw [Hp.prep_nil]
    refine ⟨List.nodup_range, fun i hi => by have := List.mem_range.1 hi; omega, by simp, fun b x hx hb' => ?_, fun b x hx => (hb.get b x hx).1⟩
    obtain ⟨h1, h2⟩ := hb.get b x hx
    refine ⟨x, by rw [ridx_range h1]; exact h2, ?_⟩
    rw [Blk.ren_low (n := m) (fun i hi => ridx_range hi)]
    · exact .refl x
    · rintro sz ver rows fz rfl row hr z hz
      exact hc b sz ver rows fz hx row hr z hz
  · obtain ⟨h1, h2⟩ := h.get t lv ht
    refine ⟨h1, lv, h2, ?_⟩
    rw [LV.ren_low (n := m) (fun i hi => ridx_range hi) h1]
    exact .refl lv

theorem wk_none {tm tm0 : Tm} {hp : Hp} (h : WkEq 0 tm tm0) : Wk 0 tm hp tm0 Hp.nil :=
  wk_keep (Nat.zero_le _) (Nat.le_refl _) trivial (by intro b sz ver rows fz h; cases h) h

theorem dcall_ret {P : Program} {f : FuncId} {args : List LV} {lv : LV} {hp : Hp} {w : Bool} {K : LV → Hp → Prop} (h : Ret P f args lv) (hk : K lv hp) : dcallK P f hp w K args :=
  ⟨lv, hp, acall_ret h ⟨rfl, rfl⟩, fun _ => rfl, hk⟩
theorem gcall_ret {P : Program} {f : FuncId} {args : List LV} {lv : LV} {o : DOp} {hs : List (Nat × Hp)} {ps : List Pd} {i : Nat} {tm : Tm} {hp : Hp} {next : List (Nat × Hp) → List Pd → Nat → Tm → Hp → Prop} {Kp : Value → Hp → Prop}
    (h : Ret P f args lv) (hk : ggK P o hs ps i tm hp next lv hp) : gcallK P f o hs ps i tm hp next Kp args :=
  .inl ⟨lv, hp, acall_ret h ⟨rfl, rfl⟩, fun _ => rfl, hk⟩
end Go.Av

namespace Go.Av
open Go.RowKit

/-! ### methods on a pointer to a struct of values alone -/
/-- The heap that such a method sees. -/
def heap1 (row : List AV) : Hp := ⟨[(0, .cells row.length 0 [row] false)], 1⟩

structure Meth (P : Program) (f : FuncId) (row : List AV) (rest : List LV) (Q : AE → List AV → Prop) : Prop where
  calls : CallsA P f (.one (.ptr 0 0 0 0) :: rest) (heap1 row) (fun ae hp => match ae with
    | .ret lv => LLowR 0 lv ∧ ∃ row', row'.length = row.length ∧ (∀ x ∈ row', Low 0 x) ∧ hp = heap1 row' ∧ Q ae row'
    | .pan v => hp = ⟨[], 1⟩ ∧ Q ae [])
  low : ∀ x ∈ rest, LLow 0 x
  lowRow : ∀ x ∈ row, Low 0 x
  pos : 0 < row.length

theorem Low.mono {n m : Nat} (h : n ≤ m) : ∀ {x : AV}, Low n x → Low m x
  | _, .iv x => .iv x
  | _, .own b ver off len h' => .own b ver off len (by omega)
  | _, .ptr b ver i j h' => .ptr b ver i j (by omega)
  | _, .ip cs j => .ip cs j
  | _, .it b h' => .it b (by omega)
  | _, .mp b h' => .mp b (by omega)
  | _, .fn f caps h' => .fn f caps fun x hx => Low.mono h (h' x hx)
  | _, .junk => .junk
theorem LLow.mono {n m : Nat} (h : n ≤ m) {x : LV} (hx : LLow n x) : LLow m x := by
  cases hx with
  | one x hx => exact .one x (hx.mono h)
  | agg cs hx => exact .agg cs fun x hc => (hx x hc).mono h

theorem closed_heap1 {row : List AV} (h : ∀ x ∈ row, Low 0 x) : Closed (heap1 row) := by
  intro b sz ver rows fz hb r hr x hx
  simp only [heap1, Bs.get] at hb
  split at hb
  · simp only [Option.some.injEq, Blk.cells.injEq] at hb
    obtain ⟨_, _, rfl, _⟩ := hb
    simp at hr
    subst hr
    exact (h x hx).mono (Nat.zero_le _)
  · cases hb

theorem acall_meth {P : Program} {f : FuncId} {row : List AV} {rest : List LV} {Q : AE → List AV → Prop} {hp : Hp} {K : LV → Hp → Prop} {Kp : Value → Hp → Prop} {b : Nat} (h : Meth P f row rest Q)
    (hb : b < hp.nxt) (hg : hp.bs.get b = some (.cells row.length 0 [row] false))
    (hk : ∀ lv row', row'.length = row.length → Q (.ret lv) row' → (∀ x ∈ row', Low 0 x) → K lv ⟨(b, .cells row.length 0 [row'] false) :: Bs.without [b] hp.bs, hp.nxt + 1⟩)
    (hkp : ∀ v, Q (.pan v) [] → Kp v ⟨Bs.without [b] hp.bs, hp.nxt + 1⟩) : acall P f (.one (.ptr b 0 0 0) :: rest) hp K Kp := by
  have hri : ridx [b] hp.nxt 0 = b := by simp [ridx]
  have hren : ∀ r : List AV, (∀ x ∈ r, Low 0 x) → rens (ridx [b] hp.nxt) r = r := fun r hr => rens_low (n := 0) (fun i hi => by omega) hr
  refine ⟨[], [], [b], heap1 row, _, _, h.calls, by simp, ?_, closed_heap1 h.lowRow, ?_, ?_, ?_⟩
  · rw [Hp.prep_nil]
    refine ⟨by simp, by simpa using hb, rfl, fun c x hx hc => ?_, fun c x hx => ?_⟩
    · simp only [heap1, Bs.get] at hx
      split at hx
      · rename_i e
        subst e
        simp only [Option.some.injEq] at hx
        subst hx
        refine ⟨_, by rw [hri]; exact hg, ?_⟩
        simp only [Blk.ren, List.map_cons, List.map_nil, hren row h.lowRow]
        exact .refl _
      · cases hx
    · simp only [heap1, Bs.get] at hx
      split at hx
      · rename_i e; subst e; simp [heap1]
      · cases hx
  · intro x hx
    rcases List.mem_cons.1 hx with rfl | hx
    · exact .one _ (.ptr _ _ _ _ (by simp [heap1]))
    · exact (h.low x hx).mono (Nat.zero_le _)
  · rw [Hp.prep_nil]
    simp only [lrens, LV.ren, AV.ren, hri]
    rw [lrens_low (n := 0) (fun i hi => by omega) h.low]
    exact CvLVs.refl _
  · intro ae H' hq
    rw [Hp.prep_nil]
    cases ae with
    | ret lv =>
      obtain ⟨hl, row', h1, h2, rfl, h3⟩ := hq
      simp only
      rw [LV.ren_lowR (n := 0) (fun i hi => by omega) hl]
      have := hk lv row' h1 h3 h2
      simpa [Hp.back, heap1, Bs.ren, hri, Blk.ren, hren row' h2, h1] using this
    | pan v =>
      obtain ⟨rfl, h3⟩ := hq
      have := hkp v h3
      simpa [Hp.back, Bs.ren] using this

theorem closed_none : Closed ⟨[], 1⟩ := by
  intro b sz ver rows fz h
  cases h

theorem zero_idx : ∀ b, b < 1 → ([0] : List Nat)[b]? = some b := by
  intro b hb
  have h : b = 0 := by omega
  rw [h]; rfl

/-- What such a method's body owes. -/
def MQ (n : Nat) (Q : AE → List AV → Prop) (ae : AE) (hp : Hp) : Prop := match ae with
    | .ret lv => LLowR 0 lv ∧ ∃ row', row'.length = n ∧ (∀ x ∈ row', Low 0 x) ∧ hp = heap1 row' ∧ Q ae row'
    | .pan v => hp = ⟨[], 1⟩ ∧ Q ae []

theorem Meth.of {P : Program} {f : FuncId} {imm : Nat → Bool} {r : RF} (hr : rsvF P f imm = some r) {row : List AV} {rest : List LV} {Q : AE → List AV → Prop} (hl : ∀ x ∈ rest, LLow 0 x) (hrow : ∀ x ∈ row, Low 0 x) (hpos : 0 < row.length) (hn : rest.length + 1 ≤ r.n)
    (h : awp P 1 r.body (body P r.rs 1 (MQ row.length Q)) (initTm 0 (.one (.ptr 0 0 0 0) :: rest)) (heap1 row)) : Meth P f row rest Q :=
  ⟨(calls_of_rsv hr (args := .one (.ptr 0 0 0 0) :: rest) (by simpa using hn) h).mono fun ae hp h => by cases ae <;> exact h, hl, hrow, hpos⟩

theorem fin_meth {n : Nat} {Q : AE → List AV → Prop} {lv : LV} {hp : Hp} {row' : List AV} (hn : 0 < hp.nxt) (hg : hp.bs.get 0 = some (.cells row'.length 0 [row'] false)) (hlen : row'.length = n) (hl : LLowR 0 lv) (hrow : ∀ x ∈ row', Low 0 x) (hq : Q (.ret lv) row') : Fin 1 (MQ n Q) lv hp := by
  have hri : ridx [0] hp.nxt 0 = 0 := by simp [ridx]
  have hf : ∀ i, i < 1 → ridx [0] hp.nxt i = i := fun i hi => by obtain rfl : i = 0 := (by omega); exact hri
  refine ⟨[], [], [0], lv, heap1 row', by simp, ?_, closed_heap1 hrow, zero_idx, ?_, ?_, ⟨hl, row', hlen, hrow, rfl, hq⟩⟩
  · rw [Hp.prep_nil]
    refine ⟨by simp, by simpa using hn, rfl, fun c x hx hc => ?_, fun c x hx => ?_⟩
    · simp only [heap1, Bs.get] at hx
      split at hx
      · rename_i e
        subst e
        simp only [Option.some.injEq] at hx
        subst hx
        refine ⟨_, by rw [hri]; exact hg, ?_⟩
        have e : rens (ridx [0] hp.nxt) row' = row' := rens_low (n := 0) (fun i hi => by omega) hrow
        simp only [Blk.ren, List.map_cons, List.map_nil, e]
        exact .refl _
      · cases hx
    · simp only [heap1, Bs.get] at hx
      split at hx
      · rename_i e; subst e; simp [heap1]
      · cases hx
  · cases hl with
    | lv x h => exact .lv _ (h.mono (Nat.zero_le _))
    | tup l h => exact .tup _ fun x hx => (h x hx).mono (Nat.zero_le _)
  · rw [Hp.prep_nil, LV.ren_lowR (n := 0) (fun i hi => by omega) hl]
    exact .lv (.refl _)

theorem finp_meth {n : Nat} {Q : AE → List AV → Prop} {v : Value} {hp : Hp} (hn : 0 < hp.nxt) (hq : Q (.pan v) []) : FinP 1 (MQ n Q) v hp := by
  refine ⟨[], [], [0], ⟨[], 1⟩, by simp, ?_, closed_none, zero_idx, ⟨rfl, hq⟩⟩
  rw [Hp.prep_nil]
  exact ⟨by simp, by simpa using hn, rfl, (fun c x hx => by cases hx), fun c x hx => by cases hx⟩
end Go.Av

namespace Go.Av
open Go.RowKit

def Blk.lows (n : Nat) : Blk → Prop
  | .cells _ _ rows _ => ∀ row ∈ rows, ∀ x ∈ row, Low n x
  | _ => True
def LowBs (n : Nat) : Bs → Prop
  | [] => True
  | (_, x) :: r => x.lows n ∧ LowBs n r

theorem closed_of {n : Nat} : ∀ {bs : Bs}, LowBs n bs → Closed ⟨bs, n⟩
  | [], _ => by intro b sz ver rows fz h; cases h
  | (c, y) :: r, hl => by
    intro b sz ver rows fz h row hr x hx
    have h' : (if c = b then some y else Bs.get r b) = some (.cells sz ver rows fz) := h
    split at h'
    · simp only [Option.some.injEq] at h'
      subst h'
      exact hl.1 row hr x hx
    · exact closed_of hl.2 b sz ver rows fz h' row hr x hx

theorem wk_keep' {k m : Nat} {tm tm0 : Tm} {hp : Hp} {bs0 : Bs} (hm : m ≤ hp.nxt) (hk : k ≤ m) (hb : BsEq m hp.bs bs0) (hc : LowBs m bs0) (h : WkEq m tm tm0) : Wk k tm hp tm0 ⟨bs0, m⟩ :=
  wk_keep hm hk hb (closed_of hc) h

theorem low_rows {α : Type} {n : Nat} {f : α → List IV} (l : List α) : ∀ row ∈ l.map (fun c => (f c).map AV.iv), ∀ x ∈ row, Low n x := by
  intro row hr x hx
  obtain ⟨c, _, rfl⟩ := List.mem_map.1 hr
  obtain ⟨y, _, rfl⟩ := List.mem_map.1 hx
  exact .iv y

/-- The same state, told otherwise. -/
def WkC (hp : Hp) (n : Nat) (tm : Tm) : Tm → Prop
  | [] => True
  | (t, lv) :: r => (LLow n lv ∧ ∃ lv', tm.get t = some lv' ∧ CvLV hp lv' lv) ∧ WkC hp n tm r

theorem WkC.get {hp : Hp} {n : Nat} {tm : Tm} : ∀ {tm0 : Tm}, WkC hp n tm tm0 → ∀ t lv, tm0.get t = some lv → LLow n lv ∧ ∃ lv', tm.get t = some lv' ∧ CvLV hp lv' lv
  | [], _, t, lv, h => by cases h
  | (a, x) :: r, hw, t, lv, h => by
    simp only [Tm.get] at h
    split at h
    · rename_i e
      simp only [Option.some.injEq] at h
      subst e; subst h
      exact hw.1
    · exact WkC.get hw.2 t lv h

theorem wk_conv {k m : Nat} {tm tm0 : Tm} {hp : Hp} {bs0 : Bs} (fz szs : List Nat) (hs : ∀ s ∈ szs, 0 < s) (hm : m ≤ (hp.prep fz szs).nxt) (hk : k ≤ m) (hb : BsEq m (hp.prep fz szs).bs bs0) (hc : LowBs m bs0) (h : WkC (hp.prep fz szs) m tm tm0) : Wk k tm hp tm0 ⟨bs0, m⟩ := by
  refine ⟨fz, szs, List.range m, hs, ?_, closed_of hc, fun b hbk => by rw [List.getElem?_range (by omega)], fun t lv ht => ?_⟩
  · refine ⟨List.nodup_range, fun i hi => by have := List.mem_range.1 hi; omega, by simp, fun b x hx hb' => ?_, fun b x hx => (hb.get b x hx).1⟩
    obtain ⟨h1, h2⟩ := hb.get b x hx
    refine ⟨x, by rw [ridx_range h1]; exact h2, ?_⟩
    rw [Blk.ren_low (n := m) (fun i hi => ridx_range hi)]
    · exact .refl x
    · rintro sz ver rows fz rfl row hr z hz
      exact closed_of hc b sz ver rows fz hx row hr z hz
  · obtain ⟨h1, lv', h2, h3⟩ := h.get t lv ht
    refine ⟨h1, lv', h2, ?_⟩
    rw [LV.ren_low (n := m) (fun i hi => ridx_range hi) h1]
    exact h3

theorem get_prep_fz {hp : Hp} {b sz ver : Nat} {rows : List (List AV)} {f : Bool} {fz : List Nat} (h : hp.bs.get b = some (.cells sz ver rows f)) (hb : b ∈ fz) : (hp.prep fz []).bs.get b = some (.cells sz ver rows true) := by
  simp only [Hp.prep, Hp.ghost, Hp.freeze, Bs.get_freeze, h, Option.map_some]
  simp [hb]

/-- A row of one's own is told as a value. -/
theorem cv_own {hp : Hp} {b ver off len sz : Nat} {rows : List (List AV)} {rs : List (List IV)} {f : Bool} {fz : List Nat} (h : hp.bs.get b = some (.cells sz ver rows f)) (hb : b ∈ fz) (hr : (rows.drop off).take len = rs.map fun r => r.map .iv) : Cv (hp.prep fz []) (.own b ver off len) (.iv (.sl sz rs)) :=
  .thaw b ver off len sz rows rs (get_prep_fz h hb) hr

theorem fin_own {hp : Hp} {b ver off len sz : Nat} {rows : List (List AV)} {rs : List (List IV)} {f : Bool} {Q : AE → Hp → Prop} (h : hp.bs.get b = some (.cells sz ver rows f)) (hr : (rows.drop off).take len = rs.map fun r => r.map .iv) (hq : Q (.ret (.one (.iv (.sl sz rs)))) Hp.nil) : Fin 0 Q (.one (.own b ver off len)) hp :=
  fin_ret [b] (.lv (.one (cv_own h (by simp) hr))) (.one (by simp)) hq

theorem fin_nil {hp : Hp} {sz : Nat} {Q : AE → Hp → Prop} (hq : Q (.ret (.one (.iv (.sl sz [])))) Hp.nil) : Fin 0 Q (.one (.iv (.sc (.slice none 0 0)))) hp :=
  fin_ret [] (.lv (.one (.nilSl sz))) (.one (by simp)) hq
end Go.Av

namespace Go.Av
open Go.RowKit

/-! ### functions that hand back a row of their own -/
structure RetNew (P : Program) (f : FuncId) (args : List LV) (sz : Nat) (rows : List (List AV)) : Prop where
  calls : CallsA P f args Hp.nil (fun ae hp => ∃ ver, ae = .ret (.one (.own 0 ver 0 rows.length)) ∧ hp = ⟨[(0, .cells sz ver rows false)], 1⟩)
  low : ∀ x ∈ args, LLow 0 x
  lowR : ∀ row ∈ rows, ∀ x ∈ row, Low 0 x

theorem rens_rows {f : Nat → Nat} {rows : List (List AV)} (h : ∀ row ∈ rows, ∀ x ∈ row, Low 0 x) : rows.map (rens f) = rows := by
  have : rows.map (rens f) = rows.map id := List.map_congr_left fun r hr => rens_low (n := 0) (fun i hi => by omega) (h r hr)
  rw [this, List.map_id]

theorem acall_new {P : Program} {f : FuncId} {args args0 : List LV} {sz : Nat} {rows : List (List AV)} {hp : Hp} {K : LV → Hp → Prop} {Kp : Value → Hp → Prop} (fz : List Nat) (h : RetNew P f args0 sz rows) (hc : CvLVs (hp.prep fz []) args args0)
    (hk : ∀ ver, K (.one (.own (hp.prep fz []).nxt ver 0 rows.length)) ⟨((hp.prep fz []).nxt, .cells sz ver rows false) :: (hp.prep fz []).bs, (hp.prep fz []).nxt + 1⟩) : acall P f args hp K Kp := by
  refine ⟨fz, [], [], Hp.nil, args0, _, h.calls, by simp, sub_nil _, closed_nil, h.low, ?_, ?_⟩
  · rw [lrens_low (n := 0) (by simp) h.low]; exact hc
  · rintro ae' H' ⟨ver, rfl, rfl⟩
    have := hk ver
    simpa [Hp.back, Bs.ren, Blk.ren, rens_rows h.lowR, LV.ren, AV.ren, ridx, Bs.without_nil] using this

theorem fin_new {hp : Hp} {b ver off len sz : Nat} {rows : List (List AV)} {Q : AE → Hp → Prop} (h : hp.bs.get b = some (.cells sz ver rows false)) (hb : b < hp.nxt) (hlow : ∀ row ∈ rows, ∀ x ∈ row, Low 0 x) (hq : Q (.ret (.one (.own 0 ver off len))) ⟨[(0, .cells sz ver rows false)], 1⟩) : Fin 0 Q (.one (.own b ver off len)) hp := by
  have hri : ridx [b] hp.nxt 0 = b := by simp [ridx]
  refine ⟨[], [], [b], .one (.own 0 ver off len), ⟨[(0, .cells sz ver rows false)], 1⟩, by simp, ?_, ?_, by simp, .one (.own _ _ _ _ Nat.zero_lt_one), ?_, hq⟩
  · rw [Hp.prep_nil]
    refine ⟨by simp, by simpa using hb, rfl, fun c x hx hc => ?_, fun c x hx => ?_⟩
    · simp only [Bs.get] at hx
      split at hx
      · rename_i e
        subst e
        simp only [Option.some.injEq] at hx
        subst hx
        refine ⟨_, by rw [hri]; exact h, ?_⟩
        simp only [Blk.ren, rens_rows hlow]
        exact .refl _
      · cases hx
    · simp only [Bs.get] at hx
      split at hx
      · rename_i e; subst e; simp
      · cases hx
  · exact closed_of ⟨fun row hr x hx => (hlow row hr x hx).mono (Nat.zero_le _), trivial⟩
  · rw [Hp.prep_nil]
    simp only [LV.ren, AV.ren, hri]
    exact .lv (.refl _)

/-! ### functions that turn a row of the caller's -/
def heapO (sz ver : Nat) (rows : List (List AV)) : Hp := ⟨[(0, .cells sz ver rows false)], 1⟩

structure OwnF (P : Program) (f : FuncId) (args : List LV) (sz ver : Nat) (rows : List (List AV)) (Q : LV → List (List AV) → Prop) : Prop where
  calls : CallsA P f args (heapO sz ver rows) (fun ae hp => ∃ lv rows', ae = .ret lv ∧ hp = heapO sz ver rows' ∧ LLowR 1 lv ∧ (∀ row ∈ rows', ∀ x ∈ row, Low 0 x) ∧ Q lv rows')
  low : ∀ x ∈ args, LLow 1 x
  lowR : ∀ row ∈ rows, ∀ x ∈ row, Low 0 x

theorem closed_heapO {sz ver : Nat} {rows : List (List AV)} (h : ∀ row ∈ rows, ∀ x ∈ row, Low 0 x) : Closed (heapO sz ver rows) :=
  closed_of ⟨fun row hr x hx => (h row hr x hx).mono (Nat.zero_le _), trivial⟩

theorem sub_heapO {hp : Hp} {b sz ver : Nat} {rows : List (List AV)} (hg : hp.bs.get b = some (.cells sz ver rows false)) (hb : b < hp.nxt) (h : ∀ row ∈ rows, ∀ x ∈ row, Low 0 x) : Sub [b] hp (heapO sz ver rows) := by
  have hri : ridx [b] hp.nxt 0 = b := by simp [ridx]
  refine ⟨by simp, by simpa using hb, rfl, fun c x hx hc => ?_, fun c x hx => ?_⟩
  · simp only [heapO, Bs.get] at hx
    split at hx
    · rename_i e
      subst e
      simp only [Option.some.injEq] at hx
      subst hx
      refine ⟨_, by rw [hri]; exact hg, ?_⟩
      simp only [Blk.ren, rens_rows h]
      exact .refl _
    · cases hx
  · simp only [heapO, Bs.get] at hx
    split at hx
    · rename_i e; subst e; simp [heapO]
    · cases hx

theorem acall_own {P : Program} {f : FuncId} {args : List LV} {sz ver : Nat} {rows : List (List AV)} {Q : LV → List (List AV) → Prop} {hp : Hp} {K : LV → Hp → Prop} {Kp : Value → Hp → Prop} {b : Nat} (h : OwnF P f args sz ver rows Q)
    (hg : hp.bs.get b = some (.cells sz ver rows false)) (hb : b < hp.nxt) {args' : List LV} (ha : args' = lrens (ridx [b] hp.nxt) args)
    (hk : ∀ lv rows', LLowR 1 lv → Q lv rows' → (∀ row ∈ rows', ∀ x ∈ row, Low 0 x) → K (lv.ren (ridx [b] hp.nxt)) ⟨(b, .cells sz ver rows' false) :: Bs.without [b] hp.bs, hp.nxt + 1⟩) : acall P f args' hp K Kp := by
  have hri : ridx [b] hp.nxt 0 = b := by simp [ridx]
  subst ha
  refine ⟨[], [], [b], heapO sz ver rows, args, _, h.calls, by simp, ?_, closed_heapO h.lowR, h.low, ?_, ?_⟩
  · rw [Hp.prep_nil]; exact sub_heapO hg hb h.lowR
  · rw [Hp.prep_nil]; exact CvLVs.refl _
  · rintro ae H' ⟨lv, rows', rfl, rfl, h1, h2, h3⟩
    rw [Hp.prep_nil]
    have := hk lv rows' h1 h3 h2
    simpa [Hp.back, heapO, Bs.ren, hri, Blk.ren, rens_rows h2] using this

theorem OwnF.of {P : Program} {f : FuncId} {imm : Nat → Bool} {r : RF} (hr : rsvF P f imm = some r) {args : List LV} {sz ver : Nat} {rows : List (List AV)} {Q : LV → List (List AV) → Prop} (hl : ∀ x ∈ args, LLow 1 x) (hrow : ∀ row ∈ rows, ∀ x ∈ row, Low 0 x) (hn : args.length ≤ r.n)
    (h : awp P 1 r.body (body P r.rs 1 (fun ae hp => ∃ lv rows', ae = .ret lv ∧ hp = heapO sz ver rows' ∧ LLowR 1 lv ∧ (∀ row ∈ rows', ∀ x ∈ row, Low 0 x) ∧ Q lv rows')) (initTm 0 args) (heapO sz ver rows)) : OwnF P f args sz ver rows Q :=
  ⟨calls_of_rsv hr hn h, hl, hrow⟩

theorem fin_ownf {sz ver : Nat} {Q : LV → List (List AV) → Prop} {lv : LV} {hp : Hp} {rows' : List (List AV)} (hn : 0 < hp.nxt) (hg : hp.bs.get 0 = some (.cells sz ver rows' false)) (hl : LLowR 1 lv) (hrow : ∀ row ∈ rows', ∀ x ∈ row, Low 0 x) (hq : Q lv rows') :
    Fin 1 (fun ae hp => ∃ lv rows', ae = .ret lv ∧ hp = heapO sz ver rows' ∧ LLowR 1 lv ∧ (∀ row ∈ rows', ∀ x ∈ row, Low 0 x) ∧ Q lv rows') lv hp := by
  have hri : ridx [0] hp.nxt 0 = 0 := by simp [ridx]
  have hf : ∀ i, i < 1 → ridx [0] hp.nxt i = i := fun i hi => by obtain rfl : i = 0 := (by omega); exact hri
  refine ⟨[], [], [0], lv, heapO sz ver rows', by simp, ?_, closed_heapO hrow, zero_idx, hl, ?_, lv, rows', rfl, rfl, hl, hrow, hq⟩
  · rw [Hp.prep_nil]; exact sub_heapO hg hn hrow
  · rw [Hp.prep_nil, LV.ren_lowR hf hl]
    cases hl with
    | lv _ _ => exact .lv (.refl _)
    | tup _ _ => exact .tup (CvLVs.refl _)
end Go.Av

namespace Go.Av
open Go.RowKit

/-- The same state under other numbers of blocks, told otherwise. -/
def WkM (hp : Hp) (f : Nat → Nat) (n : Nat) (tm : Tm) : Tm → Prop
  | [] => True
  | (t, lv) :: r => (LLow n lv ∧ ∃ lv', tm.get t = some lv' ∧ CvLV hp lv' (lv.ren f)) ∧ WkM hp f n tm r
def BsM (f : Nat → Nat) (n : Nat) (bs : Bs) : Bs → Prop
  | [] => True
  | (b, x) :: r => (b < n ∧ bs.get (f b) = some x) ∧ BsM f n bs r

theorem WkM.get {hp : Hp} {f : Nat → Nat} {n : Nat} {tm : Tm} : ∀ {tm0 : Tm}, WkM hp f n tm tm0 → ∀ t lv, tm0.get t = some lv → LLow n lv ∧ ∃ lv', tm.get t = some lv' ∧ CvLV hp lv' (lv.ren f)
  | [], _, t, lv, h => by cases h
  | (a, x) :: r, hw, t, lv, h => by
    simp only [Tm.get] at h
    split at h
    · rename_i e
      simp only [Option.some.injEq] at h
      subst e; subst h
      exact hw.1
    · exact WkM.get hw.2 t lv h
theorem BsM.get {f : Nat → Nat} {n : Nat} {bs : Bs} : ∀ {bs0 : Bs}, BsM f n bs bs0 → ∀ b x, Bs.get bs0 b = some x → b < n ∧ bs.get (f b) = some x
  | [], _, t, lv, h => by cases h
  | (a, x) :: r, hw, t, lv, h => by
    simp only [Bs.get] at h
    split at h
    · rename_i e
      simp only [Option.some.injEq] at h
      subst e; subst h
      exact hw.1
    · exact BsM.get hw.2 t lv h
theorem LowBs.get {n : Nat} : ∀ {bs0 : Bs}, LowBs n bs0 → ∀ b x, Bs.get bs0 b = some x → x.lows n
  | [], _, b, x, h => by cases h
  | (a, y) :: r, hl, b, x, h => by
    simp only [Bs.get] at h
    split at h
    · simp only [Option.some.injEq] at h
      subst h; exact hl.1
    · exact LowBs.get hl.2 b x h
theorem LowBs.mono {n m : Nat} (h : n ≤ m) : ∀ {bs0 : Bs}, LowBs n bs0 → LowBs m bs0
  | [], _ => trivial
  | (a, y) :: r, hl => ⟨by
      cases y with
      | cells => exact fun row hr x hx => (hl.1 row hr x hx).mono h
      | iter => trivial
      | map => trivial, LowBs.mono h hl.2⟩

theorem wk_ms {k m : Nat} {tm tm0 : Tm} {hp : Hp} {bs0 : Bs} (fz szs ms : List Nat) (hs : ∀ s ∈ szs, 0 < s) (hm : ms.length = m) (hn : ms.Nodup) (hlt : ∀ i ∈ ms, i < (hp.prep fz szs).nxt) (hk : ∀ b, b < k → ms[b]? = some b)
    (hb : BsM (ridx ms (hp.prep fz szs).nxt) m (hp.prep fz szs).bs bs0) (hc : LowBs 0 bs0) (h : WkM (hp.prep fz szs) (ridx ms (hp.prep fz szs).nxt) m tm tm0) : Wk k tm hp tm0 ⟨bs0, m⟩ := by
  refine ⟨fz, szs, ms, hs, ?_, closed_of (hc.mono (Nat.zero_le _)), hk, fun t lv ht => h.get t lv ht⟩
  refine ⟨hn, hlt, by simp [hm], fun b x hx hb' => ?_, fun b x hx => (hb.get b x hx).1⟩
  obtain ⟨h1, h2⟩ := hb.get b x hx
  refine ⟨x, h2, ?_⟩
  rw [Blk.ren_low (n := 0) (fun i hi => by omega)]
  · exact .refl x
  · rintro sz ver rows fz rfl row hr z hz
    exact hc.get b _ hx row hr z hz
end Go.Av

namespace Go.Av
open Go.RowKit

/-! ### the data of the pattern's tree -/
structure Rg where
  lo : Int
  hi : Int
  deriving DecidableEq, Inhabited

abbrev Cls := List Rg

inductive Nd where
  | mk (kind : Int) (cls : Cls) (least most : Int) (lzy : Bool) (num : Int) (kids : List Nd)
  deriving Inhabited

def Rg.cells (r : Rg) : List IV := [.sc (.int .i32 r.lo), .sc (.int .i32 r.hi)]
def clsIV (c : Cls) : IV := .sl 2 (c.map Rg.cells)

mutual
def Nd.cells : Nd → List IV
  | .mk k c a b l n ks => [.sc (.int .i64 k), clsIV c, .sc (.int .i64 a), .sc (.int .i64 b), .sc (.bool l), .sc (.int .i64 n), .sl 7 (ndRows ks)]
def ndRows : List Nd → List (List IV)
  | [] => []
  | x :: r => Nd.cells x :: ndRows r
end

theorem ndRows_eq : ∀ l, ndRows l = l.map Nd.cells
  | [] => rfl
  | x :: r => by simp [ndRows, ndRows_eq r]

def Nd.kids : Nd → List Nd
  | .mk _ _ _ _ _ _ ks => ks

mutual
def Nd.same : Nd → Nd → Bool
  | .mk k c a b l n ks, .mk k' c' a' b' l' n' ks' => k == k' && (c == c' && (a == a' && (b == b' && (l == l' && (n == n' && ndSames ks ks')))))
def ndSames : List Nd → List Nd → Bool
  | [], [] => true
  | x :: r, y :: s => Nd.same x y && ndSames r s
  | _, _ => false
end

def sameAt (l l' : List Nd) (i : Nat) : Bool := match l[i]?, l'[i]? with
  | some x, some y => Nd.same x y
  | _, _ => false

theorem ndSames_eq : ∀ (l l' : List Nd), ndSames l l' = (l.length == l'.length && (List.range l.length).all (sameAt l l'))
  | [], [] => rfl
  | [], y :: s => by simp [ndSames]
  | x :: r, [] => by simp [ndSames]
  | x :: r, y :: s => by
    rw [ndSames, ndSames_eq r s]
    simp only [List.length_cons, List.range_succ_eq_map, List.all_cons, List.all_map]
    have e : (r.length + 1 == s.length + 1) = (r.length == s.length) := by simp
    rw [e]
    have e2 : (sameAt (x :: r) (y :: s) ∘ Nat.succ) = sameAt r s := by funext i; rfl
    have e3 : sameAt (x :: r) (y :: s) 0 = Nd.same x y := rfl
    rw [e2, e3]
    cases Nd.same x y <;> cases r.length == s.length <;> simp
end Go.Av

namespace Go.Av
open Go.RowKit

/-! ### the evaluation lemmas, as one theorem each -/
theorem ev : ((((((((type_of% @awp_skip) ∧ (type_of% @awp_seq)) ∧ ((type_of% @awp_reg) ∧ (type_of% @awp_cond))) ∧ (((type_of% @awp_block) ∧ (type_of% @awp_exit)) ∧ ((type_of% @awp_ret) ∧ (type_of% @seqK_normal)))) ∧ ((((type_of% @seqK_exit) ∧ (type_of% @seqK_ret)) ∧ ((type_of% @seqK_pan) ∧ (type_of% @blockK_normal))) ∧ (((type_of% @blockK_exit) ∧ (type_of% @blockK_ret)) ∧ ((type_of% @blockK_pan) ∧ (type_of% @loopK_normal))))) ∧ (((((type_of% @loopK_exit) ∧ (type_of% @loopK_ret)) ∧ ((type_of% @loopK_pan) ∧ (type_of% @aops_cons))) ∧ (((type_of% @aops_nil) ∧ (type_of% @aops_cond)) ∧ ((type_of% @aops_ncond) ∧ (type_of% @opsK_app)))) ∧ ((((type_of% @panK_app) ∧ (type_of% @aop1_all)) ∧ ((type_of% @callK_app) ∧ (type_of% @aop1_call))) ∧ (((type_of% @aop1_callv) ∧ (type_of% @callvK1_app)) ∧ ((type_of% @callvK2_app) ∧ ((type_of% @callvK3_app) ∧ (type_of% @aop1_panic))))))) ∧ ((((((type_of% @pvK1_app) ∧ (type_of% @pvK_app)) ∧ ((type_of% @awp_dreg) ∧ (type_of% @awp_greg))) ∧ (((type_of% @adraw_nil) ∧ (type_of% @adraw_cons)) ∧ ((type_of% @adraw_cond) ∧ (type_of% @adraw_ncond)))) ∧ ((((type_of% @drawK_app) ∧ (type_of% @drawT_app)) ∧ ((type_of% @dopT_app) ∧ (type_of% @dop1_all))) ∧ (((type_of% @dop1_len) ∧ (type_of% @dop1_call)) ∧ ((type_of% @gd_nil) ∧ ((type_of% @gd_cons) ∧ (type_of% @gd_cond)))))) ∧ (((((type_of% @gd_ncond) ∧ (type_of% @gdK_app)) ∧ ((type_of% @gdT_app) ∧ (type_of% @ggT_app))) ∧ (((type_of% @ggo_all) ∧ (type_of% @ggK_app)) ∧ ((type_of% @ggo_call) ∧ (type_of% @gchk1.eq_1)))) ∧ ((((type_of% @gchk1.eq_2) ∧ (type_of% @gchk2.eq_1)) ∧ ((type_of% @gchk2.eq_2) ∧ (type_of% @awpT_app))) ∧ (((type_of% @aopsT_app) ∧ (type_of% @guardT_app)) ∧ ((type_of% @lenT_app) ∧ ((type_of% @aeqs.eq_1) ∧ (type_of% @aeqs.eq_2)))))))) ∧ (((((((type_of% @aeqs.eq_3) ∧ (type_of% @aeq1.eq_1)) ∧ ((type_of% @aeq1.eq_2) ∧ (type_of% @aeq1.eq_3))) ∧ (((type_of% @aeq1.eq_4) ∧ (type_of% @abytes.eq_1)) ∧ ((type_of% @abytes.eq_2) ∧ (type_of% @abytes.eq_3)))) ∧ ((((type_of% @aclear.eq_1) ∧ (type_of% @aclear.eq_2)) ∧ ((type_of% @aclear.eq_3) ∧ (type_of% @aisnil.eq_1))) ∧ (((type_of% @aisnil.eq_2) ∧ (type_of% @aisnil.eq_3)) ∧ ((type_of% @aisnil.eq_4) ∧ (type_of% @aisnil.eq_5))))) ∧ (((((type_of% @aappn.eq_1) ∧ (type_of% @aappn.eq_2)) ∧ ((type_of% @Hp.put.eq_1) ∧ (type_of% @aop1_len))) ∧ (((type_of% @lenK_sl) ∧ (type_of% @lenK_nil)) ∧ ((type_of% @lenK_own) ∧ (type_of% @aop.eq_1)))) ∧ ((((type_of% @aop.eq_2) ∧ (type_of% @aop.eq_3)) ∧ ((type_of% @aop.eq_4) ∧ (type_of% @aop.eq_5))) ∧ (((type_of% @aop.eq_6) ∧ (type_of% @aop.eq_7)) ∧ ((type_of% @aop.eq_8) ∧ ((type_of% @aop.eq_9) ∧ (type_of% @aop.eq_10))))))) ∧ ((((((type_of% @aop.eq_11) ∧ (type_of% @aop.eq_12)) ∧ ((type_of% @aop.eq_13) ∧ (type_of% @aop.eq_14))) ∧ (((type_of% @aop.eq_15) ∧ (type_of% @aop.eq_16)) ∧ ((type_of% @aop.eq_17) ∧ (type_of% @aop.eq_18)))) ∧ ((((type_of% @aop.eq_19) ∧ (type_of% @aop.eq_20)) ∧ ((type_of% @aop.eq_21) ∧ (type_of% @aop.eq_22))) ∧ (((type_of% @aop.eq_23) ∧ (type_of% @aop.eq_24)) ∧ ((type_of% @aop.eq_25) ∧ ((type_of% @aop.eq_26) ∧ (type_of% @aop.eq_27)))))) ∧ (((((type_of% @aop.eq_28) ∧ (type_of% @aop.eq_29)) ∧ ((type_of% @aop.eq_30) ∧ (type_of% @aop.eq_31))) ∧ (((type_of% @aop.eq_32) ∧ (type_of% @aop.eq_33)) ∧ ((type_of% @aop.eq_34) ∧ (type_of% @aop.eq_35)))) ∧ ((((type_of% @aop.eq_36) ∧ (type_of% @aop.eq_37)) ∧ ((type_of% @aop.eq_38) ∧ (type_of% @odv.eq_1))) ∧ (((type_of% @odv.eq_2) ∧ (type_of% @odvs.eq_1)) ∧ ((type_of% @odvs.eq_2) ∧ ((type_of% @ob.eq_1) ∧ (type_of% @ob.eq_2))))))))) ∧ ((((((((type_of% @tget_cons) ∧ (type_of% @tset_cons)) ∧ ((type_of% @tput_some) ∧ (type_of% @tput_none))) ∧ (((type_of% @rbind_true) ∧ (type_of% @rbind_some)) ∧ ((type_of% @obind_some) ∧ (type_of% @brkT_t)))) ∧ ((((type_of% @brkT_f) ∧ (type_of% @vbrk_some)) ∧ ((type_of% @gbrk_some) ∧ (type_of% @gbrk_tup))) ∧ (((type_of% @sct.eq_1) ∧ (type_of% @fnOf.eq_1)) ∧ ((type_of% @fnOf.eq_2) ∧ (type_of% @fnOf.eq_3))))) ∧ (((((type_of% @aload.eq_1) ∧ (type_of% @aload.eq_2)) ∧ ((type_of% @aload.eq_3) ∧ (type_of% @astore.eq_1))) ∧ (((type_of% @astore.eq_2) ∧ (type_of% @aiaddr.eq_1)) ∧ ((type_of% @aiaddr.eq_2) ∧ (type_of% @aiaddr.eq_3)))) ∧ ((((type_of% @aslice.eq_1) ∧ (type_of% @aslice.eq_2)) ∧ ((type_of% @aslice.eq_3) ∧ (type_of% @aslice.eq_4))) ∧ (((type_of% @alen.eq_1) ∧ (type_of% @alen.eq_2)) ∧ ((type_of% @alen.eq_3) ∧ ((type_of% @alen.eq_4) ∧ (type_of% @abin.eq_1))))))) ∧ ((((((type_of% @abin.eq_2) ∧ (type_of% @abin.eq_3)) ∧ ((type_of% @abinI.eq_1) ∧ (type_of% @abinI.eq_2))) ∧ (((type_of% @abinI.eq_3) ∧ (type_of% @abinI.eq_4)) ∧ ((type_of% @abinI.eq_5) ∧ (type_of% @abinI.eq_6)))) ∧ ((((type_of% @abinI.eq_7) ∧ (type_of% @abinI.eq_8)) ∧ ((type_of% @abinI.eq_9) ∧ (type_of% @abinI.eq_10))) ∧ (((type_of% @abinI.eq_11) ∧ (type_of% @abinI.eq_12)) ∧ ((type_of% @abinS.eq_1) ∧ ((type_of% @abinS.eq_2) ∧ (type_of% @abinS.eq_3)))))) ∧ (((((type_of% @abinS.eq_4) ∧ (type_of% @abinB.eq_1)) ∧ ((type_of% @abinB.eq_2) ∧ (type_of% @abinB.eq_3))) ∧ (((type_of% @arows.eq_1) ∧ (type_of% @arows.eq_2)) ∧ ((type_of% @arows.eq_3) ∧ (type_of% @arows.eq_4)))) ∧ ((((type_of% @aappend.eq_1) ∧ (type_of% @one?.eq_1)) ∧ ((type_of% @one?.eq_2) ∧ (type_of% @ones.eq_1))) ∧ (((type_of% @ones.eq_2) ∧ (type_of% @bparts.eq_1)) ∧ ((type_of% @bparts.eq_2) ∧ ((type_of% @brows.eq_1) ∧ (type_of% @brows.eq_2)))))))) ∧ (((((((type_of% @ivs.eq_1) ∧ (type_of% @ivs.eq_2)) ∧ ((type_of% @ivs.eq_3) ∧ (type_of% @ivs_map))) ∧ (((type_of% @ivrows.eq_1) ∧ (type_of% @ivrows.eq_2)) ∧ ((type_of% @over.eq_1) ∧ (type_of% @over.eq_2)))) ∧ ((((type_of% @vals.eq_1) ∧ (type_of% @vals.eq_2)) ∧ ((type_of% @AV.val.eq_1) ∧ (type_of% @AV.val.eq_2))) ∧ (((type_of% @LV.val.eq_1) ∧ (type_of% @LV.val.eq_2)) ∧ ((type_of% @LV.val.eq_3) ∧ (type_of% @LV.cells.eq_1))))) ∧ (((((type_of% @LV.cells.eq_2) ∧ (type_of% @LV.cells.eq_3)) ∧ ((type_of% @Hp.new.eq_1) ∧ (type_of% @Hp.live.eq_1))) ∧ (((type_of% @Hp.lives.eq_1) ∧ (type_of% @Hp.nil.eq_1)) ∧ ((type_of% @Bs.get.eq_1) ∧ (type_of% @Bs.get.eq_2)))) ∧ ((((type_of% @body.eq_1) ∧ (type_of% @body.eq_2)) ∧ ((type_of% @body.eq_3) ∧ (type_of% @body.eq_4))) ∧ (((type_of% @ares.eq_1) ∧ (type_of% @aress.eq_1)) ∧ ((type_of% @aress.eq_2) ∧ ((type_of% @ares1.eq_1) ∧ (type_of% @ares1.eq_2))))))) ∧ ((((((type_of% @grantT_known) ∧ (type_of% @beqKnd)) ∧ ((type_of% @boolNot_t) ∧ (type_of% @boolNot_f))) ∧ (((type_of% @Nat.le_refl) ∧ (type_of% @Bool.and_true)) ∧ ((type_of% @Bool.true_and) ∧ (type_of% @Bool.and_self)))) ∧ ((((type_of% @decide_true) ∧ (type_of% @decide_false)) ∧ ((type_of% @List.length_map.{0, 0}) ∧ (type_of% @List.length_cons.{0}))) ∧ (((type_of% @List.length_nil.{0}) ∧ (type_of% @List.map_cons.{0, 0})) ∧ ((type_of% @List.map_nil.{0, 0}) ∧ ((type_of% @List.getElem?_cons_zero.{0}) ∧ (type_of% @List.getElem?_cons_succ.{0})))))) ∧ (((((type_of% @List.set_cons_zero.{0}) ∧ (type_of% @List.set_cons_succ.{0})) ∧ ((type_of% @List.drop_zero.{0}) ∧ (type_of% @List.drop_succ_cons.{0}))) ∧ (((type_of% @List.take_succ_cons.{0}) ∧ (type_of% @List.take_zero.{0})) ∧ ((type_of% @List.append_nil.{0}) ∧ (type_of% @List.toList_toArray.{0})))) ∧ ((((type_of% @true_and) ∧ (type_of% @and_true)) ∧ ((type_of% @beq_self_eq_true.{0}) ∧ (type_of% @Option.map_some.{0, 0}))) ∧ (((type_of% @Int.toNat_natCast) ∧ (type_of% @Int.toNat_zero)) ∧ ((type_of% @Int.toNat_one) ∧ ((type_of% @List.isEmpty_nil.{0}) ∧ (type_of% @ite_self.{1}))))))))) :=
  ⟨⟨⟨⟨⟨⟨⟨⟨@awp_skip, @awp_seq⟩, ⟨@awp_reg, @awp_cond⟩⟩, ⟨⟨@awp_block, @awp_exit⟩, ⟨@awp_ret, @seqK_normal⟩⟩⟩, ⟨⟨⟨@seqK_exit, @seqK_ret⟩, ⟨@seqK_pan, @blockK_normal⟩⟩, ⟨⟨@blockK_exit, @blockK_ret⟩, ⟨@blockK_pan, @loopK_normal⟩⟩⟩⟩, ⟨⟨⟨⟨@loopK_exit, @loopK_ret⟩, ⟨@loopK_pan, @aops_cons⟩⟩, ⟨⟨@aops_nil, @aops_cond⟩, ⟨@aops_ncond, @opsK_app⟩⟩⟩, ⟨⟨⟨@panK_app, @aop1_all⟩, ⟨@callK_app, @aop1_call⟩⟩, ⟨⟨@aop1_callv, @callvK1_app⟩, ⟨@callvK2_app, ⟨@callvK3_app, @aop1_panic⟩⟩⟩⟩⟩⟩, ⟨⟨⟨⟨⟨@pvK1_app, @pvK_app⟩, ⟨@awp_dreg, @awp_greg⟩⟩, ⟨⟨@adraw_nil, @adraw_cons⟩, ⟨@adraw_cond, @adraw_ncond⟩⟩⟩, ⟨⟨⟨@drawK_app, @drawT_app⟩, ⟨@dopT_app, @dop1_all⟩⟩, ⟨⟨@dop1_len, @dop1_call⟩, ⟨@gd_nil, ⟨@gd_cons, @gd_cond⟩⟩⟩⟩⟩, ⟨⟨⟨⟨@gd_ncond, @gdK_app⟩, ⟨@gdT_app, @ggT_app⟩⟩, ⟨⟨@ggo_all, @ggK_app⟩, ⟨@ggo_call, @gchk1.eq_1⟩⟩⟩, ⟨⟨⟨@gchk1.eq_2, @gchk2.eq_1⟩, ⟨@gchk2.eq_2, @awpT_app⟩⟩, ⟨⟨@aopsT_app, @guardT_app⟩, ⟨@lenT_app, ⟨@aeqs.eq_1, @aeqs.eq_2⟩⟩⟩⟩⟩⟩⟩, ⟨⟨⟨⟨⟨⟨@aeqs.eq_3, @aeq1.eq_1⟩, ⟨@aeq1.eq_2, @aeq1.eq_3⟩⟩, ⟨⟨@aeq1.eq_4, @abytes.eq_1⟩, ⟨@abytes.eq_2, @abytes.eq_3⟩⟩⟩, ⟨⟨⟨@aclear.eq_1, @aclear.eq_2⟩, ⟨@aclear.eq_3, @aisnil.eq_1⟩⟩, ⟨⟨@aisnil.eq_2, @aisnil.eq_3⟩, ⟨@aisnil.eq_4, @aisnil.eq_5⟩⟩⟩⟩, ⟨⟨⟨⟨@aappn.eq_1, @aappn.eq_2⟩, ⟨@Hp.put.eq_1, @aop1_len⟩⟩, ⟨⟨@lenK_sl, @lenK_nil⟩, ⟨@lenK_own, @aop.eq_1⟩⟩⟩, ⟨⟨⟨@aop.eq_2, @aop.eq_3⟩, ⟨@aop.eq_4, @aop.eq_5⟩⟩, ⟨⟨@aop.eq_6, @aop.eq_7⟩, ⟨@aop.eq_8, ⟨@aop.eq_9, @aop.eq_10⟩⟩⟩⟩⟩⟩, ⟨⟨⟨⟨⟨@aop.eq_11, @aop.eq_12⟩, ⟨@aop.eq_13, @aop.eq_14⟩⟩, ⟨⟨@aop.eq_15, @aop.eq_16⟩, ⟨@aop.eq_17, @aop.eq_18⟩⟩⟩, ⟨⟨⟨@aop.eq_19, @aop.eq_20⟩, ⟨@aop.eq_21, @aop.eq_22⟩⟩, ⟨⟨@aop.eq_23, @aop.eq_24⟩, ⟨@aop.eq_25, ⟨@aop.eq_26, @aop.eq_27⟩⟩⟩⟩⟩, ⟨⟨⟨⟨@aop.eq_28, @aop.eq_29⟩, ⟨@aop.eq_30, @aop.eq_31⟩⟩, ⟨⟨@aop.eq_32, @aop.eq_33⟩, ⟨@aop.eq_34, @aop.eq_35⟩⟩⟩, ⟨⟨⟨@aop.eq_36, @aop.eq_37⟩, ⟨@aop.eq_38, @odv.eq_1⟩⟩, ⟨⟨@odv.eq_2, @odvs.eq_1⟩, ⟨@odvs.eq_2, ⟨@ob.eq_1, @ob.eq_2⟩⟩⟩⟩⟩⟩⟩⟩, ⟨⟨⟨⟨⟨⟨⟨@tget_cons, @tset_cons⟩, ⟨@tput_some, @tput_none⟩⟩, ⟨⟨@rbind_true, @rbind_some⟩, ⟨@obind_some, @brkT_t⟩⟩⟩, ⟨⟨⟨@brkT_f, @vbrk_some⟩, ⟨@gbrk_some, @gbrk_tup⟩⟩, ⟨⟨@sct.eq_1, @fnOf.eq_1⟩, ⟨@fnOf.eq_2, @fnOf.eq_3⟩⟩⟩⟩, ⟨⟨⟨⟨@aload.eq_1, @aload.eq_2⟩, ⟨@aload.eq_3, @astore.eq_1⟩⟩, ⟨⟨@astore.eq_2, @aiaddr.eq_1⟩, ⟨@aiaddr.eq_2, @aiaddr.eq_3⟩⟩⟩, ⟨⟨⟨@aslice.eq_1, @aslice.eq_2⟩, ⟨@aslice.eq_3, @aslice.eq_4⟩⟩, ⟨⟨@alen.eq_1, @alen.eq_2⟩, ⟨@alen.eq_3, ⟨@alen.eq_4, @abin.eq_1⟩⟩⟩⟩⟩⟩, ⟨⟨⟨⟨⟨@abin.eq_2, @abin.eq_3⟩, ⟨@abinI.eq_1, @abinI.eq_2⟩⟩, ⟨⟨@abinI.eq_3, @abinI.eq_4⟩, ⟨@abinI.eq_5, @abinI.eq_6⟩⟩⟩, ⟨⟨⟨@abinI.eq_7, @abinI.eq_8⟩, ⟨@abinI.eq_9, @abinI.eq_10⟩⟩, ⟨⟨@abinI.eq_11, @abinI.eq_12⟩, ⟨@abinS.eq_1, ⟨@abinS.eq_2, @abinS.eq_3⟩⟩⟩⟩⟩, ⟨⟨⟨⟨@abinS.eq_4, @abinB.eq_1⟩, ⟨@abinB.eq_2, @abinB.eq_3⟩⟩, ⟨⟨@arows.eq_1, @arows.eq_2⟩, ⟨@arows.eq_3, @arows.eq_4⟩⟩⟩, ⟨⟨⟨@aappend.eq_1, @one?.eq_1⟩, ⟨@one?.eq_2, @ones.eq_1⟩⟩, ⟨⟨@ones.eq_2, @bparts.eq_1⟩, ⟨@bparts.eq_2, ⟨@brows.eq_1, @brows.eq_2⟩⟩⟩⟩⟩⟩⟩, ⟨⟨⟨⟨⟨⟨@ivs.eq_1, @ivs.eq_2⟩, ⟨@ivs.eq_3, @ivs_map⟩⟩, ⟨⟨@ivrows.eq_1, @ivrows.eq_2⟩, ⟨@over.eq_1, @over.eq_2⟩⟩⟩, ⟨⟨⟨@vals.eq_1, @vals.eq_2⟩, ⟨@AV.val.eq_1, @AV.val.eq_2⟩⟩, ⟨⟨@LV.val.eq_1, @LV.val.eq_2⟩, ⟨@LV.val.eq_3, @LV.cells.eq_1⟩⟩⟩⟩, ⟨⟨⟨⟨@LV.cells.eq_2, @LV.cells.eq_3⟩, ⟨@Hp.new.eq_1, @Hp.live.eq_1⟩⟩, ⟨⟨@Hp.lives.eq_1, @Hp.nil.eq_1⟩, ⟨@Bs.get.eq_1, @Bs.get.eq_2⟩⟩⟩, ⟨⟨⟨@body.eq_1, @body.eq_2⟩, ⟨@body.eq_3, @body.eq_4⟩⟩, ⟨⟨@ares.eq_1, @aress.eq_1⟩, ⟨@aress.eq_2, ⟨@ares1.eq_1, @ares1.eq_2⟩⟩⟩⟩⟩⟩, ⟨⟨⟨⟨⟨@grantT_known, @beqKnd⟩, ⟨@boolNot_t, @boolNot_f⟩⟩, ⟨⟨@Nat.le_refl, @Bool.and_true⟩, ⟨@Bool.true_and, @Bool.and_self⟩⟩⟩, ⟨⟨⟨@decide_true, @decide_false⟩, ⟨@List.length_map.{0, 0}, @List.length_cons.{0}⟩⟩, ⟨⟨@List.length_nil.{0}, @List.map_cons.{0, 0}⟩, ⟨@List.map_nil.{0, 0}, ⟨@List.getElem?_cons_zero.{0}, @List.getElem?_cons_succ.{0}⟩⟩⟩⟩⟩, ⟨⟨⟨⟨@List.set_cons_zero.{0}, @List.set_cons_succ.{0}⟩, ⟨@List.drop_zero.{0}, @List.drop_succ_cons.{0}⟩⟩, ⟨⟨@List.take_succ_cons.{0}, @List.take_zero.{0}⟩, ⟨@List.append_nil.{0}, @List.toList_toArray.{0}⟩⟩⟩, ⟨⟨⟨@true_and, @and_true⟩, ⟨@beq_self_eq_true.{0}, @Option.map_some.{0, 0}⟩⟩, ⟨⟨@Int.toNat_natCast, @Int.toNat_zero⟩, ⟨@Int.toNat_one, ⟨@List.isEmpty_nil.{0}, @ite_self.{1}⟩⟩⟩⟩⟩⟩⟩⟩⟩
theorem wk : ((((type_of% @WkEq.eq_1) ∧ (type_of% @WkEq.eq_2)) ∧ ((type_of% @BsEq.eq_1) ∧ ((type_of% @BsEq.eq_2) ∧ (type_of% @tget_cons)))) ∧ (((type_of% @LLow.one_iff) ∧ ((type_of% @LLow.agg_iff) ∧ (type_of% @Low.iv_iff))) ∧ ((type_of% @Low.ptr_iff) ∧ ((type_of% @Low.own_iff) ∧ (type_of% @Low.ip_iff))))) ∧ ((((type_of% @Low.it_iff) ∧ (type_of% @Low.fn_iff)) ∧ ((type_of% @sct.eq_1) ∧ ((type_of% @Bs.get.eq_1) ∧ (type_of% @Bs.get.eq_2)))) ∧ (((type_of% @and_self) ∧ ((type_of% @implies_true.{0}) ∧ (type_of% @true_and))) ∧ ((type_of% @and_true) ∧ ((type_of% @Nat.lt_add_one) ∧ (type_of% @Nat.zero_lt_succ))))) :=
  ⟨⟨⟨⟨@WkEq.eq_1, @WkEq.eq_2⟩, ⟨@BsEq.eq_1, ⟨@BsEq.eq_2, @tget_cons⟩⟩⟩, ⟨⟨@LLow.one_iff, ⟨@LLow.agg_iff, @Low.iv_iff⟩⟩, ⟨@Low.ptr_iff, ⟨@Low.own_iff, @Low.ip_iff⟩⟩⟩⟩, ⟨⟨⟨@Low.it_iff, @Low.fn_iff⟩, ⟨@sct.eq_1, ⟨@Bs.get.eq_1, @Bs.get.eq_2⟩⟩⟩, ⟨⟨@and_self, ⟨@implies_true.{0}, @true_and⟩⟩, ⟨@and_true, ⟨@Nat.lt_add_one, @Nat.zero_lt_succ⟩⟩⟩⟩⟩
end Go.Av

