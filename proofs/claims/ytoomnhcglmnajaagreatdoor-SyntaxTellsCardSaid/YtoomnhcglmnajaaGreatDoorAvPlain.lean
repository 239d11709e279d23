/-
  What was put is parsed back, and what is parsed is in normal form; no condition.
-/
import Derived.Test.YtoomnhcglmnajaaGreatDoorAvThree
import Derived.Test.YtoomnhcglmnajaaGreatDoorAvEight
import Derived.Lib.TrimUEq
set_option linter.unusedVariables false
set_option linter.unusedSimpArgs false
namespace Go.Av
open Go.RowKit

/-! ### the parser by runes alone -/
def rsOf (cs : List Ch) : List Int := cs.map Ch.r
theorem rsOf_drop (cs : List Ch) (n : Nat) : rsOf (cs.drop n) = (rsOf cs).drop n := by simp [rsOf]
theorem rsOf_length (cs : List Ch) : (rsOf cs).length = cs.length := by simp [rsOf]
theorem peek_rs (cs : List Ch) : peekOf cs = (rsOf cs).headD (-1) := by cases cs <;> rfl
theorem peek_cons {cs : List Ch} {r : Int} {l : List Int} (h : rsOf cs = r :: l) : peekOf cs = r := by rw [peek_rs, h]; rfl
theorem drop_cons {cs : List Ch} {r : Int} {l : List Int} (h : rsOf cs = r :: l) : rsOf (cs.drop 1) = l := by rw [rsOf_drop, h]; rfl

theorem codes_one (b : UInt8) : codes ⟨#[b]⟩ = [b.toNat] := rfl
theorem eatB_one (b : UInt8) (cs : List Ch) : eatB ⟨#[b]⟩ cs = (peekOf cs == (b.toNat : Int)) := by
  unfold eatB; rw [codes_one]
  cases cs with
  | nil => simp [eatOf, peekOf]
  | cons c r =>
    simp only [eatOf, peekOf]
    split
    · rename_i h; simp [h]
    · rename_i h; simp [h]
theorem eatR_one {b : UInt8} {cs : List Ch} (h : eatB ⟨#[b]⟩ cs = true) : eatR ⟨#[b]⟩ cs = cs.drop 1 := by
  unfold eatR; unfold eatB at h; rw [codes_one] at h ⊢
  cases cs with
  | nil => simp [eatOf] at h
  | cons c r =>
    simp only [eatOf] at h ⊢
    split
    · rfl
    · rename_i h2; simp [h2] at h
theorem eatR_one_no {b : UInt8} {cs : List Ch} (h : eatB ⟨#[b]⟩ cs = false) : eatR ⟨#[b]⟩ cs = cs := by
  unfold eatR; unfold eatB at h
  cases h2 : eatOf (codes ⟨#[b]⟩) cs with
  | none => rfl
  | some r => simp [h2] at h

/-- It went well, and this is left. -/
def Got {α : Type} (r : PR α) (x : α) (rest : List Int) (g : Int) : Prop := ∃ cs', r = .ok (x, cs', g) ∧ rsOf cs' = rest

/-! ### what is put, by runes -/
def escI (r : Int) (s : ByteArray) : List Int := if isR r s then [92, r] else [r]
def rgI (r : Rg) : List Int := if r.hi == r.lo then escI r.lo inClsB else escI r.lo inClsB ++ 45 :: escI r.hi inClsB
def clsI (c : Cls) : List Int := if c == dotL then [46] else if oneRune c then escI (headLo c) specB else 91 :: (c.flatMap rgI ++ [93])
def timesI0 (a b : Int) : List Int :=
  if a == 0 && b == -1 then [42] else if a == 1 && b == -1 then [43] else if a == 0 && b == 1 then [63]
  else if a == b then 123 :: (decI a.toNat ++ [125]) else if b == -1 then 123 :: (decI a.toNat ++ [44, 125])
  else 123 :: (decI a.toNat ++ 44 :: (decI b.toNat ++ [125]))
def timesI (a b : Int) (z : Bool) : List Int := if z then timesI0 a b ++ [63] else timesI0 a b
def wrapI (w : Bool) (l : List Int) : List Int := if w then 40 :: 63 :: 58 :: (l ++ [41]) else l
def joinI (sep : List Int) : List (List Int) → List Int
  | [] => []
  | [x] => x
  | x :: y :: r => x ++ sep ++ joinI sep (y :: r)
mutual
def putI : Nd → List Int
  | .mk k c a b z m ks =>
    if k == 1 then clsI c else if k == 2 then [94] else if k == 3 then [36] else if k == 4 then [92, 98] else if k == 5 then [92, 66]
    else if k == 6 then joinI [] (putIs [7] ks) else if k == 7 then joinI [124] (putIs [] ks)
    else if k == 8 then joinI [] (putIs [0, 6, 7, 8] ks) ++ timesI a b z
    else if k == 9 then 40 :: (joinI [] (putIs [] ks) ++ [41]) else []
def putIs (kinds : List Int) : List Nd → List (List Int)
  | [] => []
  | x :: r => wrapI (kinds.contains x.kind) (putI x) :: putIs kinds r
end
theorem putIs_eq (kinds : List Int) : ∀ l, putIs kinds l = l.map fun x => wrapI (kinds.contains x.kind) (putI x)
  | [] => by simp [putIs]
  | x :: r => by simp [putIs, putIs_eq kinds r]
theorem joinI_nil : ∀ l : List (List Int), joinI [] l = l.flatten
  | [] => rfl
  | [x] => by simp [joinI]
  | x :: y :: r => by simp [joinI, joinI_nil (y :: r)]

/-! ### what the parser tells -/
def okR (r : Int) : Bool := decide (0 ≤ r) && decide (r < 55296) || decide (57344 ≤ r) && decide (r ≤ 1114111)
structure ClsOk (c : Cls) : Prop where
  ne : c ≠ []
  len : c.length ≤ 64
  norm : Norm c
  may : ∀ r ∈ c, r.may = true
  lo : ∀ r ∈ c, okR r.lo = true
  hi : ∀ r ∈ c, okR r.hi = true

inductive Ok : Nd → Prop
  | empty : Ok emptyN
  | one (c : Cls) (h : ClsOk c) : Ok (oneN c)
  | plain (k : Int) (h : k = 2 ∨ k = 3 ∨ k = 4 ∨ k = 5) : Ok (plainN k)
  | cat (ks : List Nd) (hl : 2 ≤ ks.length) (h : ∀ y ∈ ks, Ok y) (hk : ∀ y ∈ ks, y.kind ≠ 0 ∧ y.kind ≠ 6) : Ok (.mk 6 [] 0 0 false 0 ks)
  | alt (ks : List Nd) (hl : 2 ≤ ks.length) (h : ∀ y ∈ ks, Ok y) (hk : ∀ y ∈ ks, y.kind ≠ 7) : Ok (.mk 7 [] 0 0 false 0 ks)
  | rep (a b : Int) (z : Bool) (x : Nd) (h0 : 0 ≤ a) (h1 : a ≤ 20) (hb : b = -1 ∨ a ≤ b ∧ b ≤ 20) (h : Ok x) : Ok (repN a b z x)
  | group (m : Int) (x : Nd) (h : Ok x) : Ok (groupN m x)

mutual
/-- The next group's number, if all are numbered as they begin. -/
def num : Nd → Int → Option Int
  | .mk k c a b z m ks, g => if k = 9 then (if m = g + 1 then nums ks (g + 1) else none) else nums ks g
def nums : List Nd → Int → Option Int
  | [], g => some g
  | x :: r, g => (num x g).bind fun g1 => nums r g1
end
theorem nums_append (a b : List Nd) (g : Int) : nums (a ++ b) g = (nums a g).bind fun g1 => nums b g1 := by
  induction a generalizing g with
  | nil => simp [nums]
  | cons x r ih =>
    simp only [List.cons_append, nums]
    cases num x g with
    | none => rfl
    | some g1 => simpa using ih g1

/-! ### classes -/
theorem may_bounds {r : Rg} (h : r.may = true) : 0 ≤ r.lo ∧ r.hi ≤ 1114111 ∧ r.lo ≤ r.hi := may_iff.1 h
theorem ofL_norm {c : Cls} (hn : Norm c) (hm : ∀ r ∈ c, r.may = true) : ofL c = c := by
  obtain ⟨a, b⟩ := ofL_spec c
  refine norm_uniq a hn fun x => (b x).trans ?_
  rw [List.filter_eq_self.2 hm]
theorem ofL_single {r : Rg} (h : r.may = true) : ofL [r] = [r] :=
  ofL_norm ⟨by intro q hq; simp at hq; subst hq; exact (may_bounds h).2.2, List.pairwise_singleton _ _⟩ (by intro q hq; simp at hq; subst hq; exact h)
theorem single_may {r : Int} (h0 : 0 ≤ r) (h1 : r ≤ 1114111) : (⟨r, r⟩ : Rg).may = true := may_iff.2 ⟨h0, h1, Int.le_refl _⟩

theorem isR_iff {r : Int} {s : ByteArray} : isR r s = true ↔ 0 ≤ r ∧ ∃ b ∈ codes s, (b : Int) = r := by
  simp [isR, hasR]
theorem inCls_iff {r : Int} : isR r inClsB = true ↔ r = 92 ∨ r = 93 ∨ r = 45 ∨ r = 94 := by
  have hc : codes inClsB = [92, 93, 45, 94] := by decide
  rw [isR_iff, hc]; simp; omega
theorem spec_iff {r : Int} : isR r specB = true ↔ r = 92 ∨ r = 46 ∨ r = 91 ∨ r = 93 ∨ r = 40 ∨ r = 41 ∨ r = 42 ∨ r = 43 ∨ r = 63 ∨ r = 123 ∨ r = 125 ∨ r = 124 ∨ r = 94 ∨ r = 36 := by
  have hc : codes specB = [92, 46, 91, 93, 40, 41, 42, 43, 63, 123, 125, 124, 94, 36] := by decide
  rw [isR_iff, hc]; simp; omega

theorem escL_spec {r : Int} (h : isR r specB = true ∨ r = 45) : escL r = [⟨r, r⟩] := by
  have hb : 0 ≤ r ∧ r ≤ 1114111 := by rw [spec_iff] at h; omega
  have h1 : (r == 110) = false := by rw [spec_iff] at h; simp; omega
  have h2 : (r == 116) = false := by rw [spec_iff] at h; simp; omega
  have h3 : (r == 100) = false := by rw [spec_iff] at h; simp; omega
  have h4 : (r == 119) = false := by rw [spec_iff] at h; simp; omega
  have h5 : (r == 115) = false := by rw [spec_iff] at h; simp; omega
  have h6 : (r == 45 || isR r specB) = true := by
    rcases h with h | h
    · simp [h]
    · simp [h]
  simp only [escL, h1, h2, h3, h4, h5, h6, Bool.false_eq_true, if_false, if_true]
  exact ofL_single (single_may hb.1 hb.2)

theorem member_got {r : Int} (h0 : 0 ≤ r) (h1 : r ≤ 1114111) {cs : List Ch} {rest : List Int} (h : rsOf cs = escI r inClsB ++ rest) (f g : Int) : Got (memberF cs f g) [⟨r, r⟩] rest g := by
  unfold escI at h
  split at h
  · rename_i hr
    have hp := peek_cons h
    have hd := drop_cons h
    have hp2 := peek_cons hd
    have hd2 := drop_cons hd
    have he : escL r = [⟨r, r⟩] := escL_spec (by
      rw [inCls_iff] at hr; rw [spec_iff]; omega)
    refine ⟨(cs.drop 1).drop 1, ?_, hd2⟩
    have e1 : (peekOf cs == 92) = true := by rw [hp]; rfl
    simp only [memberF, e1, if_true, hp2, he, List.length_cons, List.length_nil, Nat.zero_add, Nat.zero_lt_one]
  · rename_i hr
    have hp := peek_cons h
    have hd := drop_cons h
    have hr' : isR r inClsB = false := by simpa using hr
    have e1 : (peekOf cs == 92) = false := by
      rw [hp]; cases h92 : (r == 92) with
      | false => rfl
      | true => have := eq_of_beq h92; rw [inCls_iff] at hr; omega
    have e2 : (decide (peekOf cs ≥ 0) && !isR (peekOf cs) inClsB) = true := by rw [hp, hr']; simp [h0]
    refine ⟨cs.drop 1, ?_, hd⟩
    simp only [memberF, e1, e2, Bool.false_eq_true, if_false, if_true]
    rw [hp, ofL_single (single_may h0 h1)]

theorem manyL_single {r : Int} (h0 : 0 ≤ r) (h1 : r ≤ 1114111) : (manyL [⟨r, r⟩] == 1) = true := by
  simp only [manyL, ofL_single (single_may h0 h1), List.foldl_cons, List.foldl_nil]
  simp

theorem dash_eq : dashB = ⟨#[45]⟩ := rfl
theorem item_got {r : Rg} (hm : r.may = true) {cs : List Ch} {rest : List Int} (h : rsOf cs = rgI r ++ rest) (hr : rest.head? ≠ some 45) (f g : Int) : Got (itemF cs f g) [r] rest g := by
  obtain ⟨lo, hi⟩ := r
  obtain ⟨b0, b1, b2⟩ := may_bounds hm
  simp only at b0 b1 b2
  unfold rgI at h
  simp only at h
  split at h
  · rename_i he
    have he := eq_of_beq he
    subst he
    obtain ⟨cs1, h1, h2⟩ := member_got b0 b1 h f g
    have h3 : eatB dashB cs1 = false := by
      rw [dash_eq, eatB_one, peek_rs, h2]
      cases rest with
      | nil => rfl
      | cons a b => simp at hr ⊢; exact hr
    exact ⟨cs1, by simp only [itemF, h1, h3, Bool.false_eq_true, if_false], h2⟩
  · rw [List.append_assoc] at h
    obtain ⟨cs1, h1, h2⟩ := member_got b0 (by omega) h f g
    have h3 : eatB dashB cs1 = true := by rw [dash_eq, eatB_one, peek_rs, h2]; rfl
    have h4 : rsOf (eatR dashB cs1) = escI hi inClsB ++ rest := by rw [dash_eq] at h3 ⊢; rw [eatR_one h3]; exact drop_cons h2
    obtain ⟨cs2, h5, h6⟩ := member_got (by omega) b1 h4 f g
    have h7 : itemOk [⟨lo, lo⟩] [⟨hi, hi⟩] = true := by
      simp only [itemOk, manyL_single b0 (by omega : lo ≤ 1114111), manyL_single (by omega : 0 ≤ hi) b1, headLo]; simp [b2]
    exact ⟨cs2, by simp only [itemF, h1, h3, if_true, h5, h7, headLo, ofL_single hm], h6⟩

theorem escI_head (r : Int) (s : ByteArray) : (escI r s).head? = some (if isR r s then 92 else r) := by unfold escI; split <;> rfl
theorem rgI_head (r : Rg) : (rgI r).head? = some (if isR r.lo inClsB then 92 else r.lo) := by
  unfold rgI
  split
  · exact escI_head _ _
  · rw [List.head?_append, escI_head]; rfl
theorem rgI_ne (r : Rg) : rgI r ≠ [] := by
  intro h; have := rgI_head r; rw [h] at this; simp at this
theorem rgI_head_not (r : Rg) (l : List Int) {q : Int} (hq : q = 93 ∨ q = 45 ∨ q = 94) : (rgI r ++ l).head? ≠ some q := by
  rw [List.head?_append, rgI_head]
  simp only [Option.some_or, ne_eq, Option.some.injEq]
  split
  · omega
  · rename_i h; rw [inCls_iff] at h; omega

theorem ket_eq : ketB = ⟨#[93]⟩ := rfl
theorem hat_eq : hatB = ⟨#[94]⟩ := rfl
theorem eatB_no {b : UInt8} {cs : List Ch} (h : (rsOf cs).head? ≠ some (b.toNat : Int)) : eatB ⟨#[b]⟩ cs = false := by
  rw [eatB_one, peek_rs]
  cases h2 : rsOf cs with
  | nil => simp
  | cons a l => rw [h2] at h; simp at h ⊢; exact h
theorem eatB_yes {b : UInt8} {cs : List Ch} {l : List Int} (h : rsOf cs = (b.toNat : Int) :: l) : eatB ⟨#[b]⟩ cs = true ∧ rsOf (eatR ⟨#[b]⟩ cs) = l := by
  have h1 : eatB ⟨#[b]⟩ cs = true := by rw [eatB_one, peek_cons h]; simp
  exact ⟨h1, by rw [eatR_one h1]; exact drop_cons h⟩

theorem clsLoop_got : ∀ (l done : Cls) (k : Nat) (cs : List Ch) (rest : List Int) (f g : Int), Norm (done ++ l) → (∀ r ∈ done ++ l, r.may = true) → rsOf cs = l.flatMap rgI ++ 93 :: rest → l.length < k →
    Got (clsLoop k done cs f g) (done ++ l) rest g
  | [], done, k, cs, rest, f, g, hn, hm, h, hk => by
    obtain ⟨k, rfl⟩ : ∃ m, k = m + 1 := ⟨k - 1, by simp at hk; omega⟩
    obtain ⟨h1, h2⟩ := eatB_yes (b := 93) h
    exact ⟨eatR ketB cs, by simp only [clsLoop, ket_eq, h1, if_true, List.append_nil], by rw [ket_eq]; exact h2⟩
  | r :: l, done, k, cs, rest, f, g, hn, hm, h, hk => by
    obtain ⟨k, rfl⟩ : ∃ m, k = m + 1 := ⟨k - 1, by simp at hk; omega⟩
    rw [List.flatMap_cons, List.append_assoc] at h
    have h1 : eatB ketB cs = false := by rw [ket_eq]; exact eatB_no (by rw [h]; exact rgI_head_not r _ (.inl rfl))
    have hrm : r.may = true := hm r (by simp)
    obtain ⟨cs1, h2, h3⟩ := item_got hrm h (by
      cases l with
      | nil => simp
      | cons q l => rw [List.flatMap_cons, List.append_assoc]; exact rgI_head_not q _ (.inr (.inl rfl))) f g
    have e : done ++ r :: l = (done ++ [r]) ++ l := by simp
    have hn1 : Norm (done ++ [r]) := by
      rw [e] at hn
      exact ⟨fun q hq => hn.1 q (List.mem_append_left _ hq), (List.pairwise_append.1 hn.2).1⟩
    have hu : unionL done [r] = done ++ [r] := ofL_norm hn1 (fun q hq => hm q (by rw [e]; exact List.mem_append_left _ hq))
    obtain ⟨cs2, h4, h5⟩ := clsLoop_got l (done ++ [r]) k cs1 rest f g (by rw [← e]; exact hn) (by rw [← e]; exact hm) h3 (by simp at hk; omega)
    exact ⟨cs2, by simp only [clsLoop, h1, Bool.false_eq_true, if_false, h2, hu, h4, e], h5⟩
end Go.Av

namespace Go.Av
open Go.RowKit

theorem flatMap_rgI_length : ∀ l : Cls, l.length ≤ (l.flatMap rgI).length
  | [] => by simp
  | r :: l => by
    have h1 := flatMap_rgI_length l
    have h2 : 0 < (rgI r).length := List.length_pos_iff.2 (rgI_ne r)
    simp only [List.flatMap_cons, List.length_append, List.length_cons]; omega

theorem class_got {c : Cls} (hc : ClsOk c) {cs : List Ch} {rest : List Int} (h : rsOf cs = c.flatMap rgI ++ 93 :: rest) (f g : Int) : Got (classF cs f g) (oneN c) rest g := by
  obtain ⟨r, l, rfl⟩ := List.exists_cons_of_ne_nil hc.ne
  rw [List.flatMap_cons, List.append_assoc] at h
  have h0 : eatB hatB cs = false := by rw [hat_eq]; exact eatB_no (by rw [h]; exact rgI_head_not r _ (.inr (.inr rfl)))
  have h0' : eatR hatB cs = cs := by rw [hat_eq] at h0 ⊢; exact eatR_one_no h0
  obtain ⟨cs1, h2, h3⟩ := item_got (hc.may r (by simp)) h (by
    cases l with
    | nil => simp
    | cons q l => rw [List.flatMap_cons, List.append_assoc]; exact rgI_head_not q _ (.inr (.inl rfl))) f g
  have hl : l.length < cs1.length + 1 := by
    rw [← rsOf_length cs1, h3]
    have := flatMap_rgI_length l
    simp only [List.length_append]; omega
  obtain ⟨cs2, h4, h5⟩ := clsLoop_got l [r] (cs1.length + 1) cs1 rest f g hc.norm hc.may h3 hl
  have hlen := hc.len
  refine ⟨cs2, ?_, h5⟩
  simp only [classF, h0, h0', h2, h4]
  rw [clsFin_ok rfl (by simp at hlen ⊢; omega)]
  rfl

theorem got_one (ex : List Ch → Int → PR Nd) (n : Int) {c : Cls} (hc : ClsOk c) {cs : List Ch} {rest : List Int} (h : rsOf cs = clsI c ++ rest) (g : Int) : Got (atomF ex n cs g) (oneN c) rest g := by
  unfold clsI at h
  split at h
  · rename_i he
    have he := eq_of_beq he
    have hp := peek_cons h
    refine ⟨cs.drop 1, ?_, drop_cons h⟩
    simp [atomF, hp, he]
  · split at h
    · rename_i h1
      obtain ⟨⟨r, hi⟩, rfl, he⟩ := oneRune_iff.1 h1
      have he : r = hi := eq_of_beq he
      subst he
      have hm := hc.may ⟨r, r⟩ (by simp)
      obtain ⟨b0, b1, _⟩ := may_bounds hm
      simp only at b0 b1
      simp only [headLo] at h
      unfold escI at h
      split at h
      · rename_i hr
        have hp := peek_cons h
        have hd := drop_cons h
        have hp2 := peek_cons hd
        have he : escL r = [⟨r, r⟩] := escL_spec (.inl hr)
        have hb : (r == 98) = false := by rw [spec_iff] at hr; simp; omega
        have hB : (r == 66) = false := by rw [spec_iff] at hr; simp; omega
        refine ⟨(cs.drop 1).drop 1, ?_, drop_cons hd⟩
        have e1 : (peekOf cs == 92) = true := by rw [hp]; rfl
        have f1 : (peekOf cs == 40) = false := by rw [hp]; rfl
        have f2 : (peekOf cs == 46) = false := by rw [hp]; rfl
        have f3 : (peekOf cs == 94) = false := by rw [hp]; rfl
        have f4 : (peekOf cs == 36) = false := by rw [hp]; rfl
        simp only [atomF, e1, f1, f2, f3, f4, Bool.false_eq_true, if_false, if_true, escapedF, hp2, hb, hB, he, List.length_cons, List.length_nil, Nat.zero_add, Nat.zero_lt_one]
      · rename_i hr
        have hp := peek_cons h
        have hr' : isR r specB = false := by simpa using hr
        rw [spec_iff] at hr
        refine ⟨cs.drop 1, ?_, drop_cons h⟩
        have e1 : (r == 40) = false := by simp; omega
        have e2 : (r == 46) = false := by simp; omega
        have e3 : (r == 94) = false := by simp; omega
        have e4 : (r == 36) = false := by simp; omega
        have e5 : (r == 92) = false := by simp; omega
        have e6 : (r == 91) = false := by simp; omega
        have e7 : (decide (r ≥ 0) && !isR r specB) = true := by rw [hr']; simp [b0]
        unfold atomF
        rw [hp]
        simp only [e1, e2, e3, e4, e5, e6, e7, Bool.false_eq_true, if_false, if_true, ofL_single hm]
    · have hp := peek_cons h
      have hd := drop_cons h
      have hd : rsOf (cs.drop 1) = c.flatMap rgI ++ 93 :: rest := by rw [hd]; simp
      obtain ⟨cs2, h4, h5⟩ := class_got hc hd (atOf cs n) g
      refine ⟨cs2, ?_, h5⟩
      rw [List.drop_one] at h4
      simp [atomF, hp, h4]

theorem got_plain (ex : List Ch → Int → PR Nd) (n : Int) {k : Int} (hk : k = 2 ∨ k = 3 ∨ k = 4 ∨ k = 5) {cs : List Ch} {rest : List Int} (h : rsOf cs = putI (plainN k) ++ rest) (g : Int) : Got (atomF ex n cs g) (plainN k) rest g := by
  rcases hk with rfl | rfl | rfl | rfl
  · have hp := peek_cons (r := 94) (l := rest) h
    exact ⟨cs.drop 1, by simp [atomF, hp], drop_cons (r := 94) h⟩
  · have hp := peek_cons (r := 36) (l := rest) h
    exact ⟨cs.drop 1, by simp [atomF, hp], drop_cons (r := 36) h⟩
  · have hp := peek_cons (r := 92) (l := 98 :: rest) h
    have hd := drop_cons (r := 92) (l := 98 :: rest) h
    have hp2 := peek_cons hd
    rw [List.drop_one] at hp2
    exact ⟨(cs.drop 1).drop 1, by simp [atomF, hp, escapedF, hp2], drop_cons hd⟩
  · have hp := peek_cons (r := 92) (l := 66 :: rest) h
    have hd := drop_cons (r := 92) (l := 66 :: rest) h
    have hp2 := peek_cons hd
    rw [List.drop_one] at hp2
    exact ⟨(cs.drop 1).drop 1, by simp [atomF, hp, escapedF, hp2], drop_cons hd⟩

/-! ### numbers -/
theorem numOf_dec : ∀ n : Nat, n ≤ 20 → numOf (decI n) = some n := by
  intro n hn
  have : ∀ m : _root_.Fin 21, numOf (decI m) = some m := by decide
  exact this ⟨n, by omega⟩
theorem dec_digits : ∀ n : Nat, n ≤ 20 → ∀ r ∈ decI n, isR r digB = true := by
  intro n hn
  have : ∀ m : _root_.Fin 21, ∀ r ∈ decI m, isR r digB = true := by decide
  exact this ⟨n, by omega⟩
theorem digs_rs (cs : List Ch) : (digs cs).map Ch.r = (rsOf cs).takeWhile fun r => isR r digB := by
  unfold digs rsOf
  rw [List.takeWhile_map]; rfl
theorem drop_takeWhile {α : Type} (p : α → Bool) : ∀ l : List α, l.drop (l.takeWhile p).length = l.dropWhile p
  | [] => rfl
  | x :: r => by
    cases h : p x with
    | true => simp [List.takeWhile_cons, List.dropWhile_cons, h, drop_takeWhile p r]
    | false => simp [List.takeWhile_cons, List.dropWhile_cons, h]
theorem digs_drop (cs : List Ch) : rsOf (cs.drop (digs cs).length) = (rsOf cs).dropWhile fun r => isR r digB := by
  have h1 : (digs cs).length = ((rsOf cs).takeWhile fun r => isR r digB).length := by rw [← digs_rs, List.length_map]
  rw [rsOf_drop, h1, drop_takeWhile]
theorem takeWhile_all {α : Type} {p : α → Bool} : ∀ {a b : List α}, (∀ x ∈ a, p x = true) → (∀ x, b.head? = some x → p x = false) → (a ++ b).takeWhile p = a ∧ (a ++ b).dropWhile p = b
  | [], b, _, hb => by
    cases b with
    | nil => simp
    | cons x r => have := hb x rfl; simp [List.takeWhile_cons, List.dropWhile_cons, this]
  | x :: a, b, ha, hb => by
    obtain ⟨h1, h2⟩ := takeWhile_all (a := a) (b := b) (fun y hy => ha y (by simp [hy])) hb
    have := ha x (by simp)
    simp [List.takeWhile_cons, List.dropWhile_cons, this, h1, h2]
theorem num_got {n : Nat} (hn : n ≤ 20) {cs : List Ch} {rest : List Int} (h : rsOf cs = decI n ++ rest) (hr : ∀ x, rest.head? = some x → isR x digB = false) (f g : Int) : Got (numF cs f g) (n : Int) rest g := by
  obtain ⟨h1, h2⟩ := takeWhile_all (p := fun r => isR r digB) (dec_digits n hn) hr
  refine ⟨cs.drop (digs cs).length, ?_, ?_⟩
  · simp only [numF, digs_rs, h, h1, numOf_dec n hn]
  · rw [digs_drop, h, h2]

theorem rbr_eq : rbrB = ⟨#[125]⟩ := rfl
theorem comma_eq : commaB = ⟨#[44]⟩ := rfl
theorem lbr_eq : lbrB = ⟨#[123]⟩ := rfl
theorem star_eq : starB = ⟨#[42]⟩ := rfl
theorem plus_eq : plusB = ⟨#[43]⟩ := rfl
theorem ques_eq : quesB = ⟨#[63]⟩ := rfl
theorem bar_eq : barB = ⟨#[124]⟩ := rfl
theorem rpar_eq : rparB = ⟨#[41]⟩ := rfl
theorem d125 : isR 125 digB = false := by decide
theorem d44 : isR 44 digB = false := by decide

/-- The part of a repetition behind the brace. -/
def brI (a b : Int) : List Int := if a == b then decI a.toNat ++ [125] else if b == -1 then decI a.toNat ++ [44, 125] else decI a.toNat ++ 44 :: (decI b.toNat ++ [125])
theorem dec_head : ∀ n : Nat, n ≤ 20 → ∀ l : List Int, ∃ d, (decI n ++ l).head? = some d ∧ 48 ≤ d ∧ d ≤ 57 := by
  intro n hn l
  have : ∀ m : _root_.Fin 21, decide ((decI m) ≠ []) && (decide (48 ≤ (decI m).headD 0) && decide ((decI m).headD 0 ≤ 57)) := by decide
  have := this ⟨n, by omega⟩
  simp only [Bool.and_eq_true, decide_eq_true_eq] at this
  obtain ⟨d, r, h⟩ := List.exists_cons_of_ne_nil this.1
  rw [h] at this ⊢
  exact ⟨d, rfl, this.2⟩

theorem braces_got {a b : Int} (h0 : 0 ≤ a) (h1 : a ≤ 20) (hb : b = -1 ∨ a ≤ b ∧ b ≤ 20) {cs : List Ch} {rest : List Int} (h : rsOf cs = brI a b ++ rest) (f g : Int) : Got (bracesF cs f g) (a, b) rest g := by
  have ha : ((a.toNat : Nat) : Int) = a := Int.toNat_of_nonneg h0
  have han : a.toNat ≤ 20 := by omega
  unfold brI at h
  split at h
  · rename_i he
    have he := eq_of_beq he
    subst he
    rw [List.append_assoc] at h
    obtain ⟨cs1, h2, h3⟩ := num_got han h (by intro x hx; simp at hx; subst hx; exact d125) f g
    rw [ha] at h2
    obtain ⟨h4, h5⟩ := eatB_yes (b := 125) h3
    exact ⟨_, by simp only [bracesF, h2, rbr_eq, h4, if_true], h5⟩
  · split at h
    · rename_i hne he
      have he := eq_of_beq he
      subst he
      rw [List.append_assoc] at h
      obtain ⟨cs1, h2, h3⟩ := num_got han h (by intro x hx; simp at hx; subst hx; exact d44) f g
      rw [ha] at h2
      have h6 : eatB ⟨#[125]⟩ cs1 = false := eatB_no (by rw [h3]; simp)
      obtain ⟨h4, h5⟩ := eatB_yes (b := 44) h3
      obtain ⟨h7, h8⟩ := eatB_yes (b := 125) h5
      exact ⟨_, by simp only [bracesF, h2, rbr_eq, comma_eq, h6, Bool.false_eq_true, if_false, h4, if_true, h7], h8⟩
    · rename_i hne1 hne2
      have hb' : a ≤ b ∧ b ≤ 20 := by
        rcases hb with rfl | hb
        · simp at hne2
        · exact hb
      have hbn : ((b.toNat : Nat) : Int) = b := Int.toNat_of_nonneg (by omega)
      rw [List.append_assoc, List.cons_append, List.append_assoc] at h
      obtain ⟨cs1, h2, h3⟩ := num_got han h (by intro x hx; simp at hx; subst hx; exact d44) f g
      rw [ha] at h2
      have h6 : eatB ⟨#[125]⟩ cs1 = false := eatB_no (by rw [h3]; simp)
      obtain ⟨h4, h5⟩ := eatB_yes (b := 44) h3
      have h9 : eatB ⟨#[125]⟩ (eatR ⟨#[44]⟩ cs1) = false := eatB_no (by
        rw [h5]
        obtain ⟨d, hd, hd1⟩ := dec_head b.toNat (by omega) ([125] ++ rest)
        rw [hd]; simp; omega)
      obtain ⟨cs3, h10, h11⟩ := num_got (by omega : b.toNat ≤ 20) h5 (by intro x hx; simp at hx; subst hx; exact d125) f g
      rw [hbn] at h10
      obtain ⟨h12, h13⟩ := eatB_yes (b := 125) h11
      exact ⟨_, by simp only [bracesF, h2, rbr_eq, comma_eq, h6, Bool.false_eq_true, if_false, h4, if_true, h9, h10, h12, Bool.true_and, hb'.1, decide_true], h13⟩

/-! ### repetitions -/
/-- What may stand behind a piece. -/
def Safe (l : List Int) : Prop := ∀ h, l.head? = some h → h ≠ 42 ∧ h ≠ 43 ∧ h ≠ 63 ∧ h ≠ 123

theorem lazy_got {a b : Int} {z : Bool} {x : Nd} {cs : List Ch} {rest : List Int} (h : rsOf cs = (if z then [63] else []) ++ rest) (hs : Safe rest) (g : Int) : Got (lazyF a b x cs g) (repN a b z x) rest g := by
  cases z with
  | true =>
    obtain ⟨h4, h5⟩ := eatB_yes (b := 63) h
    exact ⟨_, by simp only [lazyF, ques_eq, h4], h5⟩
  | false =>
    have h4 : eatB ⟨#[63]⟩ cs = false := eatB_no (by
      intro e; rw [show rsOf cs = rest from h] at e; have := (hs _ e).2.2.1; simp at this)
    exact ⟨cs, by simp only [lazyF, ques_eq, h4, eatR_one_no h4], h⟩

theorem timesI_eq (a b : Int) (z : Bool) : timesI a b z = timesI0 a b ++ (if z then [63] else []) := by unfold timesI; split <;> simp

theorem rep_got {a b : Int} {z : Bool} {x : Nd} (h0 : 0 ≤ a) (h1 : a ≤ 20) (hb : b = -1 ∨ a ≤ b ∧ b ≤ 20) {cs : List Ch} {rest : List Int} (h : rsOf cs = timesI a b z ++ rest) (hs : Safe rest) (n g : Int) : Got (repF n x cs g) (repN a b z x) rest g := by
  rw [timesI_eq, List.append_assoc] at h
  unfold timesI0 at h
  split at h
  · rename_i he
    simp only [Bool.and_eq_true, beq_iff_eq] at he
    obtain ⟨rfl, rfl⟩ := he
    obtain ⟨h4, h5⟩ := eatB_yes (b := 42) h
    obtain ⟨cs1, h6, h7⟩ := lazy_got (a := 0) (b := -1) (x := x) h5 hs g
    exact ⟨cs1, by simp only [repF, star_eq, h4, if_true, h6], h7⟩
  · split at h
    · rename_i he
      simp only [Bool.and_eq_true, beq_iff_eq] at he
      obtain ⟨rfl, rfl⟩ := he
      have h3 : eatB ⟨#[42]⟩ cs = false := eatB_no (by rw [h]; simp)
      obtain ⟨h4, h5⟩ := eatB_yes (b := 43) h
      obtain ⟨cs1, h6, h7⟩ := lazy_got (a := 1) (b := -1) (x := x) h5 hs g
      exact ⟨cs1, by simp only [repF, star_eq, plus_eq, h3, h4, Bool.false_eq_true, if_false, if_true, h6], h7⟩
    · split at h
      · rename_i he
        simp only [Bool.and_eq_true, beq_iff_eq] at he
        obtain ⟨rfl, rfl⟩ := he
        have h3 : eatB ⟨#[42]⟩ cs = false := eatB_no (by rw [h]; simp)
        have h3' : eatB ⟨#[43]⟩ cs = false := eatB_no (by rw [h]; simp)
        obtain ⟨h4, h5⟩ := eatB_yes (b := 63) h
        obtain ⟨cs1, h6, h7⟩ := lazy_got (a := 0) (b := 1) (x := x) h5 hs g
        exact ⟨cs1, by simp only [repF, star_eq, plus_eq, ques_eq, h3, h3', h4, Bool.false_eq_true, if_false, if_true, h6], h7⟩
      · have hbr : rsOf cs = 123 :: (brI a b ++ ((if z then [63] else []) ++ rest)) := by
          rw [h]; unfold brI
          split
          · simp
          · split <;> simp
        have h2 : eatB ⟨#[42]⟩ cs = false := eatB_no (by rw [hbr]; simp)
        have h3 : eatB ⟨#[43]⟩ cs = false := eatB_no (by rw [hbr]; simp)
        have h3' : eatB ⟨#[63]⟩ cs = false := eatB_no (by rw [hbr]; simp)
        obtain ⟨h4, h5⟩ := eatB_yes (b := 123) hbr
        obtain ⟨cs1, h6, h7⟩ := braces_got h0 h1 hb h5 (atOf cs n) g
        obtain ⟨cs2, h8, h9⟩ := lazy_got (a := a) (b := b) (x := x) h7 hs g
        exact ⟨cs2, by simp only [repF, star_eq, plus_eq, ques_eq, lbr_eq, h2, h3, h3', h4, Bool.false_eq_true, if_false, if_true, h6, h8], h9⟩

theorem norep {x : Nd} {cs : List Ch} {rest : List Int} (h : rsOf cs = rest) (hs : Safe rest) (n g : Int) : Got (repF n x cs g) x rest g := by
  have e : ∀ b : UInt8, ((b.toNat : Int) = 42 ∨ (b.toNat : Int) = 43 ∨ (b.toNat : Int) = 63 ∨ (b.toNat : Int) = 123) → eatB ⟨#[b]⟩ cs = false := fun b hb => eatB_no (by
    rw [h]; intro e; have := hs _ e; omega)
  have h1 := e 42 (by decide)
  have h2 := e 43 (by decide)
  have h3 := e 63 (by decide)
  have h4 := e 123 (by decide)
  exact ⟨cs, by simp only [repF, star_eq, plus_eq, ques_eq, lbr_eq, h1, h2, h3, h4, Bool.false_eq_true, if_false], h⟩
end Go.Av

namespace Go.Av
open Go.RowKit

/-! ### pieces -/
def pieceI (x : Nd) : List Int := wrapI ([7].contains x.kind) (putI x)
def atomI (x : Nd) : List Int := wrapI ([0, 6, 7, 8].contains x.kind) (putI x)
def Start (l : List Int) : Prop := ∃ h, l.head? = some h ∧ h ≠ 41 ∧ h ≠ 42 ∧ h ≠ 43 ∧ h ≠ 63 ∧ h ≠ 123 ∧ h ≠ 124
theorem Start.append {l : List Int} (h : Start l) (r : List Int) : Start (l ++ r) := by
  obtain ⟨a, h1, h2⟩ := h
  exact ⟨a, by rw [List.head?_append, h1]; rfl, h2⟩
theorem Start.safe {l : List Int} (h : Start l) : Safe l := by
  obtain ⟨a, h1, h2⟩ := h
  intro b hb
  rw [h1] at hb; cases hb
  exact ⟨h2.2.1, h2.2.2.1, h2.2.2.2.1, h2.2.2.2.2.1⟩
theorem Safe.append {l r : List Int} (h : Safe l) (hr : Safe r) : Safe (l ++ r) := by
  intro b hb
  cases l with
  | nil => exact hr b hb
  | cons a l => exact h b hb

theorem put_cat (ks : List Nd) : putI (.mk 6 [] 0 0 false 0 ks) = ks.flatMap pieceI := by
  have e : putI (.mk 6 [] 0 0 false 0 ks) = joinI [] (putIs [7] ks) := by simp [putI]
  rw [e, joinI_nil, putIs_eq]
  rfl
theorem wrapI_no (l : List Int) : wrapI false l = l := rfl
theorem put_alt (ks : List Nd) : putI (.mk 7 [] 0 0 false 0 ks) = joinI [124] (ks.map putI) := by
  have e : putI (.mk 7 [] 0 0 false 0 ks) = joinI [124] (putIs [] ks) := by simp [putI]
  rw [e, putIs_eq]
  rfl
theorem put_rep (a b : Int) (z : Bool) (x : Nd) : putI (repN a b z x) = atomI x ++ timesI a b z := by
  simp only [repN, putI, putIs, joinI]; rfl
theorem put_group (m : Int) (x : Nd) : putI (groupN m x) = 40 :: (putI x ++ [41]) := by
  simp only [groupN, putI, putIs, joinI]; rfl
theorem put_empty : putI emptyN = [] := by simp [emptyN, putI]
theorem put_one (c : Cls) : putI (oneN c) = clsI c := by simp [oneN, putI]

theorem start_cls {c : Cls} (hc : ClsOk c) : Start (clsI c) := by
  unfold clsI
  split
  · exact ⟨46, rfl, by decide⟩
  · split
    · rename_i h1
      obtain ⟨⟨r, hi⟩, rfl, he⟩ := oneRune_iff.1 h1
      show Start (escI r specB)
      by_cases h : isR r specB = true
      · rw [show escI r specB = [92, r] by simp [escI, h]]
        exact ⟨92, rfl, by decide⟩
      · rw [show escI r specB = [r] by simp [escI, h]]
        rw [spec_iff] at h
        exact ⟨r, rfl, by omega⟩
    · exact ⟨91, rfl, by decide⟩

theorem start_plain {k : Int} (hk : k = 2 ∨ k = 3 ∨ k = 4 ∨ k = 5) : Start (putI (plainN k)) := by
  rcases hk with rfl | rfl | rfl | rfl
  · exact ⟨94, rfl, by decide⟩
  · exact ⟨36, rfl, by decide⟩
  · exact ⟨92, rfl, by decide⟩
  · exact ⟨92, rfl, by decide⟩

theorem start_atom {x : Nd} (h : Ok x) (hk : [0, 6, 7, 8].contains x.kind = false) : Start (putI x) := by
  cases h with
  | empty => simp [emptyN, Nd.kind] at hk
  | one c hc => rw [put_one]; exact start_cls hc
  | plain k h => exact start_plain h
  | cat ks => simp [Nd.kind] at hk
  | alt ks => simp [Nd.kind] at hk
  | rep => simp [repN, Nd.kind] at hk
  | group m x h => rw [put_group]; exact ⟨40, rfl, by decide⟩
theorem start_atomI {x : Nd} (h : Ok x) : Start (atomI x) := by
  unfold atomI
  cases hk : [0, 6, 7, 8].contains x.kind with
  | true => exact ⟨40, rfl, by decide⟩
  | false => exact start_atom h hk
theorem start_piece {x : Nd} (h : Ok x) (h0 : x.kind ≠ 0) (h6 : x.kind ≠ 6) : Start (pieceI x) := by
  unfold pieceI
  cases hk : [7].contains x.kind with
  | true => exact ⟨40, rfl, by decide⟩
  | false =>
    rw [wrapI_no]
    cases h with
    | empty => simp [emptyN, Nd.kind] at h0
    | one c hc => rw [put_one]; exact start_cls hc
    | plain k h => exact start_plain h
    | cat ks => simp [Nd.kind] at h6
    | alt ks => simp [Nd.kind] at hk
    | rep a b z x _ _ _ h => rw [put_rep]; exact (start_atomI h).append _
    | group m x h => rw [put_group]; exact ⟨40, rfl, by decide⟩

theorem safe_nil : Safe [] := by intro h hh; cases hh
theorem safe_cons {a : Int} (h : a ≠ 42 ∧ a ≠ 43 ∧ a ≠ 63 ∧ a ≠ 123) (l : List Int) : Safe (a :: l) := by intro b hb; cases hb; exact h

theorem safe_one {x : Nd} (h : Ok x) (h7 : x.kind ≠ 7) : Safe (putI x) := by
  cases h with
  | empty => rw [put_empty]; exact safe_nil
  | one c hc => rw [put_one]; exact (start_cls hc).safe
  | plain k h => exact (start_plain h).safe
  | cat ks hl h hk =>
    rw [put_cat]
    cases ks with
    | nil => exact safe_nil
    | cons y r =>
      rw [List.flatMap_cons]
      exact ((start_piece (h y (by simp)) (hk y (by simp)).1 (hk y (by simp)).2).append _).safe
  | alt ks => simp [Nd.kind] at h7
  | rep a b z x _ _ _ h => rw [put_rep]; exact ((start_atomI h).append _).safe
  | group m x h => rw [put_group]; exact safe_cons (by decide) _
theorem safe_put {x : Nd} (h : Ok x) : Safe (putI x) := by
  by_cases h7 : x.kind = 7
  · cases h with
    | alt ks hl h hk =>
      rw [put_alt]
      match ks, hl with
      | y :: y2 :: r, _ =>
        simp only [List.map_cons, joinI, List.append_assoc]
        exact (safe_one (h y (by simp)) (hk y (by simp))).append (safe_cons (by decide) _)
    | empty => exact safe_one .empty (by simp [emptyN, Nd.kind])
    | one c h => exact safe_one (.one c h) (by simp [oneN, Nd.kind])
    | plain k h => exact safe_one (.plain k h) (by simp [plainN, Nd.kind]; omega)
    | cat ks a b c => exact safe_one (.cat ks a b c) (by simp [Nd.kind])
    | rep a b z x h0 h1 hb h => exact safe_one (.rep a b z x h0 h1 hb h) (by simp [repN, Nd.kind])
    | group m x h => exact safe_one (.group m x h) (by simp [groupN, Nd.kind])
  · exact safe_one h h7

/-! ### groups -/
mutual
theorem num_le : ∀ (x : Nd) (g g' : Int), num x g = some g' → g ≤ g'
  | .mk k c a b z m ks, g, g', h => by
    simp only [num] at h
    split at h
    · split at h
      · have := nums_le ks _ _ h; omega
      · cases h
    · exact nums_le ks _ _ h
theorem nums_le : ∀ (l : List Nd) (g g' : Int), nums l g = some g' → g ≤ g'
  | [], g, g', h => by simp [nums] at h; omega
  | x :: r, g, g', h => by
    simp only [nums] at h
    cases h1 : num x g with
    | none => rw [h1] at h; cases h
    | some g1 =>
      rw [h1] at h
      have := num_le x _ _ h1
      have := nums_le r _ _ h
      omega
end
theorem nums_cons {x : Nd} {r : List Nd} {g g' : Int} (h : nums (x :: r) g = some g') : ∃ g1, num x g = some g1 ∧ nums r g1 = some g' := by
  simp only [nums] at h
  cases h1 : num x g with
  | none => rw [h1] at h; cases h
  | some g1 => rw [h1] at h; exact ⟨g1, rfl, h⟩
theorem nums_one (x : Nd) (g : Int) : nums [x] g = num x g := by
  simp only [nums]
  cases num x g <;> rfl

/-! ### the parser takes what was put -/
def ExGot (ex : List Ch → Int → PR Nd) (k : Nat) : Prop := ∀ x, Ok x → ∀ g g', num x g = some g' → 0 ≤ g → g' ≤ 8 → ∀ cs rest, rsOf cs = putI x ++ rest → (rest = [] ∨ rest.head? = some 41) → cs.length < k → Got (ex cs g) x rest g'

theorem codes_nonc : codes noncB = [63, 58] := by decide
theorem nonc_yes {cs : List Ch} {l : List Int} (h : rsOf cs = 63 :: 58 :: l) : eatB noncB cs = true ∧ rsOf (eatR noncB cs) = l := by
  match cs, h with
  | [], h => cases h
  | [a], h => simp [rsOf] at h
  | a :: b :: r, h =>
    simp only [rsOf, List.map_cons, List.cons.injEq] at h
    obtain ⟨h1, h2, h3⟩ := h
    simp [eatB, eatR, codes_nonc, eatOf, h1, h2, rsOf, h3]
theorem nonc_no {cs : List Ch} (h : (rsOf cs).head? ≠ some 63) : eatB noncB cs = false := by
  cases cs with
  | nil => rfl
  | cons a r =>
    have h1 : ¬ a.r = 63 := by intro e; apply h; simp [rsOf, e]
    simp [eatB, codes_nonc, eatOf, h1]

theorem close_got {num_ n : Int} {x y : Nd} {r : PR Nd} {rest : List Int} {g : Int} (h : Got r x (41 :: rest) g) (hy : (if num_ > 0 then groupN num_ x else x) = y) : Got (closeF num_ n r) y rest g := by
  obtain ⟨cs1, rfl, h2⟩ := h
  obtain ⟨h4, h5⟩ := eatB_yes (b := 41) h2
  exact ⟨_, by simp only [closeF, rpar_eq, h4, if_true, hy], h5⟩

theorem paren_f {ex : List Ch → Int → PR Nd} {n : Int} {cs : List Ch} {l : List Int} (h : rsOf cs = 40 :: l) (g : Int) : atomF ex n cs g = groupF ex n (cs.drop 1) (atOf cs n) g := by
  have e : (peekOf cs == 40) = true := by rw [peek_cons h]; rfl
  simp only [atomF, e, if_true]

theorem len_drop {cs : List Ch} {a : Int} {l : List Int} (h : rsOf cs = a :: l) : (cs.drop 1).length < cs.length := by
  have := rsOf_length cs
  rw [h] at this
  simp at this ⊢; omega

theorem wrap_got {ex : List Ch → Int → PR Nd} {k : Nat} (hE : ExGot ex k) (n : Int) {x : Nd} (hx : Ok x) {g g' : Int} (hn : num x g = some g') (h0 : 0 ≤ g) (h8 : g' ≤ 8) {cs : List Ch} {rest : List Int} (h : rsOf cs = 40 :: 63 :: 58 :: (putI x ++ [41]) ++ rest) (hk : cs.length ≤ k) : Got (atomF ex n cs g) x rest g' := by
  have h1 := drop_cons (r := 40) h
  obtain ⟨h2, h3⟩ := nonc_yes h1
  rw [paren_f (l := _) h]
  simp only [groupF, h2, if_true]
  have hl := len_drop (a := 40) h
  have hsuf := (eatR_suf noncB (cs.drop 1)).length_le
  refine close_got (hE x hx g g' hn h0 h8 _ (41 :: rest) ?_ (.inr rfl) (by omega)) (by simp)
  rw [h3]; simp

theorem atom_got {ex : List Ch → Int → PR Nd} {k : Nat} (hE : ExGot ex k) (n : Int) {x : Nd} (hx : Ok x) (hkd : [0, 6, 7, 8].contains x.kind = false) {g g' : Int} (hn : num x g = some g') (h0 : 0 ≤ g) (h8 : g' ≤ 8) {cs : List Ch} {rest : List Int} (h : rsOf cs = putI x ++ rest) (hk : cs.length ≤ k) : Got (atomF ex n cs g) x rest g' := by
  cases hx with
  | empty => simp [emptyN, Nd.kind] at hkd
  | one c hc =>
    have : g' = g := by simpa [oneN, num, nums] using hn.symm
    subst this
    rw [put_one] at h
    exact got_one ex n hc h g'
  | plain k' hk' =>
    have : g' = g := by
      have h9 : ¬ k' = 9 := by omega
      simpa [plainN, num, nums, h9] using hn.symm
    subst this
    exact got_plain ex n hk' h g'
  | cat ks => simp [Nd.kind] at hkd
  | alt ks => simp [Nd.kind] at hkd
  | rep => simp [repN, Nd.kind] at hkd
  | group m y hy =>
    rw [put_group] at h
    simp only [groupN, num, if_true] at hn
    split at hn
    · rename_i hm
      rw [nums_one] at hn
      have h1 := drop_cons (r := 40) h
      have hle := num_le _ _ _ hn
      rw [paren_f (l := _) h]
      have h2 : eatB noncB (cs.drop 1) = false := nonc_no (by
        rw [h1]
        intro e
        have := ((safe_put hy).append (safe_cons (a := 41) (by decide) rest)) 63 (by rw [← e]; simp)
        exact this.2.2.1 rfl)
      have h3 : ¬ g + 1 > 8 := by omega
      simp only [groupF, h2, Bool.false_eq_true, if_false, h3]
      have hl := len_drop (a := 40) h
      refine close_got (hE y hy (g + 1) g' hn (by omega) h8 _ (41 :: rest) (by rw [h1]; simp) (.inr rfl) (by omega)) ?_
      rw [if_pos (by omega), hm]
    · cases hn

theorem atomI_got {ex : List Ch → Int → PR Nd} {k : Nat} (hE : ExGot ex k) (n : Int) {x : Nd} (hx : Ok x) {g g' : Int} (hn : num x g = some g') (h0 : 0 ≤ g) (h8 : g' ≤ 8) {cs : List Ch} {rest : List Int} (h : rsOf cs = atomI x ++ rest) (hk : cs.length ≤ k) : Got (atomF ex n cs g) x rest g' := by
  unfold atomI at h
  cases hkd : [0, 6, 7, 8].contains x.kind with
  | true => rw [hkd] at h; exact wrap_got hE n hx hn h0 h8 h hk
  | false => rw [hkd] at h; exact atom_got hE n hx hkd hn h0 h8 h hk

theorem piece_norep {ex : List Ch → Int → PR Nd} {n : Int} {x : Nd} {cs : List Ch} {rest : List Int} {g g' : Int} (h : Got (atomF ex n cs g) x rest g') (hs : Safe rest) : Got (pieceF ex n cs g) x rest g' := by
  obtain ⟨cs1, h1, h2⟩ := h
  obtain ⟨cs2, h3, h4⟩ := norep (x := x) h2 hs n g'
  exact ⟨cs2, by simp only [pieceF, h1, h3], h4⟩

theorem piece_got {ex : List Ch → Int → PR Nd} {k : Nat} (hE : ExGot ex k) (n : Int) {x : Nd} (hx : Ok x) (hk0 : x.kind ≠ 0) (hk6 : x.kind ≠ 6) {g g' : Int} (hn : num x g = some g') (h0 : 0 ≤ g) (h8 : g' ≤ 8) {cs : List Ch} {rest : List Int} (h : rsOf cs = pieceI x ++ rest) (hs : Safe rest) (hk : cs.length ≤ k) : Got (pieceF ex n cs g) x rest g' := by
  unfold pieceI at h
  by_cases hk7 : x.kind = 7
  · have : [(7 : Int)].contains x.kind = true := by rw [hk7]; rfl
    rw [this] at h
    exact piece_norep (wrap_got hE n hx hn h0 h8 h hk) hs
  · have h7 : [(7 : Int)].contains x.kind = false := by simp; omega
    rw [h7] at h
    by_cases hk8 : x.kind = 8
    · cases hx with
      | rep a b z y ha0 ha1 hb hy =>
        rw [wrapI_no, put_rep, List.append_assoc] at h
        have hn' : num y g = some g' := by
          simp only [repN, num] at hn
          rw [if_neg (by decide), nums_one] at hn
          exact hn
        obtain ⟨cs1, h1, h2⟩ := atomI_got hE n hy hn' h0 h8 h hk
        obtain ⟨cs2, h3, h4⟩ := rep_got (x := y) ha0 ha1 hb h2 hs n g'
        exact ⟨cs2, by simp only [pieceF, h1, h3], h4⟩
      | empty => simp [emptyN, Nd.kind] at hk8
      | one c h => simp [oneN, Nd.kind] at hk8
      | plain k h => simp [plainN, Nd.kind] at hk8; omega
      | cat ks => simp [Nd.kind] at hk8
      | alt ks => simp [Nd.kind] at hk8
      | group m x h => simp [groupN, Nd.kind] at hk8
    · exact piece_norep (atom_got hE n hx (by simp; omega) hn h0 h8 h hk) hs
end Go.Av

namespace Go.Av
open Go.RowKit

def branch (x : Nd) : List Nd := if x.kind = 0 then [] else if x.kind = 6 then x.kids else [x]
def alts (x : Nd) : List Nd := if x.kind = 7 then x.kids else [x]

theorem flat_self {k : Int} : ∀ {l : List Nd}, (∀ y ∈ l, y.kind ≠ k) → flatL k l = l
  | [], _ => rfl
  | x :: r, h => by
    have h1 : (x.kind == k) = false := by have := h x (by simp); simp [this]
    have h2 := flat_self (l := r) fun y hy => h y (by simp [hy])
    simp only [flatL] at h2
    simp [flatL, List.flatMap_cons, flat1, h1, h2]
theorem catK_self {l : List Nd} (h : ∀ y ∈ l, y.kind ≠ 0 ∧ y.kind ≠ 6) : catK l = l := by
  unfold catK
  rw [flat_self fun y hy => (h y hy).2, List.filter_eq_self]
  intro y hy
  have := (h y hy).1
  simp [this]

theorem branch_ok {x : Nd} (h : Ok x) : (∀ y ∈ branch x, Ok y ∧ y.kind ≠ 0 ∧ y.kind ≠ 6) ∧ catN (branch x) = x ∧ (∀ g, nums (branch x) g = num x g) ∧ (x.kind ≠ 7 → (branch x).flatMap pieceI = putI x) := by
  have gen : ∀ {x : Nd}, Ok x → x.kind ≠ 0 → x.kind ≠ 6 → (∀ y ∈ branch x, Ok y ∧ y.kind ≠ 0 ∧ y.kind ≠ 6) ∧ catN (branch x) = x ∧ (∀ g, nums (branch x) g = num x g) ∧ (x.kind ≠ 7 → (branch x).flatMap pieceI = putI x) := by
    intro x h h0 h6
    have e : branch x = [x] := by simp [branch, h0, h6]
    rw [e]
    refine ⟨by intro y hy; simp at hy; subst hy; exact ⟨h, h0, h6⟩, ?_, fun g => nums_one x g, fun h7 => ?_⟩
    · have : catK [x] = [x] := catK_self (by intro y hy; simp at hy; subst hy; exact ⟨h0, h6⟩)
      simp [catN, this]
    · have : [(7 : Int)].contains x.kind = false := by simp; omega
      simp only [List.flatMap_cons, List.flatMap_nil, List.append_nil, pieceI, this, wrapI_no]
  cases h with
  | empty =>
    have e : branch emptyN = [] := rfl
    rw [e]
    exact ⟨by simp, rfl, fun g => by simp [nums, num, emptyN], fun _ => by rw [put_empty]; rfl⟩
  | one c h => exact gen (.one c h) (by simp [oneN, Nd.kind]) (by simp [oneN, Nd.kind])
  | plain k h => exact gen (.plain k h) (by simp [plainN, Nd.kind]; omega) (by simp [plainN, Nd.kind]; omega)
  | cat ks hl h hk =>
    have e : branch (.mk 6 [] 0 0 false 0 ks) = ks := rfl
    rw [e]
    refine ⟨fun y hy => ⟨h y hy, hk y hy⟩, ?_, fun g => by simp [num], fun _ => (put_cat ks).symm⟩
    unfold catN
    rw [catK_self hk]
    match ks, hl with
    | a :: b :: r, _ => rfl
  | alt ks a b c => exact gen (.alt ks a b c) (by simp [Nd.kind]) (by simp [Nd.kind])
  | rep a b z x h0 h1 hb h => exact gen (.rep a b z x h0 h1 hb h) (by simp [repN, Nd.kind]) (by simp [repN, Nd.kind])
  | group m x h => exact gen (.group m x h) (by simp [groupN, Nd.kind]) (by simp [groupN, Nd.kind])

theorem alts_ok {x : Nd} (h : Ok x) : alts x ≠ [] ∧ (∀ y ∈ alts x, Ok y ∧ y.kind ≠ 7) ∧ altN (alts x) = x ∧ (∀ g, nums (alts x) g = num x g) ∧ joinI [124] ((alts x).map putI) = putI x := by
  by_cases h7 : x.kind = 7
  · cases h with
    | alt ks hl h hk =>
      have e : alts (.mk 7 [] 0 0 false 0 ks) = ks := rfl
      rw [e]
      refine ⟨by intro e; rw [e] at hl; simp at hl, fun y hy => ⟨h y hy, hk y hy⟩, ?_, fun g => by simp [num], (put_alt ks).symm⟩
      have := flat_self hk
      match ks, hl with
      | a :: b :: r, _ => simp only [altN, this]
    | empty => simp [emptyN, Nd.kind] at h7
    | one c h => simp [oneN, Nd.kind] at h7
    | plain k h => simp [plainN, Nd.kind] at h7; omega
    | cat ks => simp [Nd.kind] at h7
    | rep => simp [repN, Nd.kind] at h7
    | group => simp [groupN, Nd.kind] at h7
  · have e : alts x = [x] := by simp [alts, h7]
    rw [e]
    exact ⟨by simp, by intro y hy; simp at hy; subst hy; exact ⟨h, h7⟩, rfl, fun g => nums_one x g, rfl⟩

/-- What may stand behind an alternative. -/
def Stop (l : List Int) : Prop := l = [] ∨ l.head? = some 41 ∨ l.head? = some 124
theorem Stop.safe {l : List Int} (h : Stop l) : Safe l := by
  intro b hb
  rcases h with rfl | h | h
  · cases hb
  · rw [h] at hb; cases hb; decide
  · rw [h] at hb; cases hb; decide

theorem pieces_safe : ∀ {ps : List Nd} {rest : List Int}, (∀ y ∈ ps, Ok y ∧ y.kind ≠ 0 ∧ y.kind ≠ 6) → Safe rest → Safe (ps.flatMap pieceI ++ rest)
  | [], rest, _, hs => hs
  | x :: r, rest, h, hs => by
    rw [List.flatMap_cons, List.append_assoc]
    have := h x (by simp)
    exact ((start_piece this.1 this.2.1 this.2.2).append _).safe

theorem loop_pieces {ex : List Ch → Int → PR Nd} {k : Nat} (hE : ExGot ex k) (n : Int) : ∀ (ps : List Nd), (∀ y ∈ ps, Ok y ∧ y.kind ≠ 0 ∧ y.kind ≠ 6) → ∀ (g g' : Int), nums ps g = some g' → 0 ≤ g → g' ≤ 8 → ∀ (cs : List Ch) (rest : List Int), rsOf cs = ps.flatMap pieceI ++ rest → Safe rest → cs.length ≤ k →
    ∀ (m : Nat) (all one : List Nd), cs.length < m → ∃ m' cs', exprLoop (pieceF ex n) m all one cs g = exprLoop (pieceF ex n) m' all (one ++ ps) cs' g' ∧ rsOf cs' = rest ∧ cs'.length < m' ∧ cs'.length ≤ k
  | [], _, g, g', hn, _, _, cs, rest, h, _, hk, m, all, one, hm => by
    simp only [nums, Option.some.injEq] at hn
    subst hn
    exact ⟨m, cs, by simp, by simpa using h, hm, hk⟩
  | x :: r, hp, g, g', hn, h0, h8, cs, rest, h, hs, hk, m, all, one, hm => by
    obtain ⟨g1, hn1, hn2⟩ := nums_cons hn
    obtain ⟨hx, hx0, hx6⟩ := hp x (by simp)
    have hle1 := num_le _ _ _ hn1
    have hle2 := nums_le _ _ _ hn2
    rw [List.flatMap_cons, List.append_assoc] at h
    have hr : ∀ y ∈ r, Ok y ∧ y.kind ≠ 0 ∧ y.kind ≠ 6 := fun y hy => hp y (by simp [hy])
    obtain ⟨cs1, h1, h2⟩ := piece_got hE n hx hx0 hx6 hn1 h0 (by omega) h (pieces_safe hr hs) hk
    obtain ⟨a, ha, hna⟩ := (start_piece hx hx0 hx6).append (r.flatMap pieceI ++ rest)
    have hlen : cs1.length < cs.length := by
      rw [← rsOf_length cs1, ← rsOf_length cs, h, h2]
      obtain ⟨b, hb, _⟩ := start_piece hx hx0 hx6
      have : 0 < (pieceI x).length := by cases hq : pieceI x with
        | nil => rw [hq] at hb; cases hb
        | cons a b => simp
      simp only [List.length_append]; omega
    obtain ⟨m, rfl⟩ : ∃ q, m = q + 1 := ⟨m - 1, by omega⟩
    obtain ⟨m', cs', h3, h4, h5, h6⟩ := loop_pieces hE n r hr g1 g' hn2 (by omega) h8 cs1 rest h2 hs (by omega) m all (one ++ [x]) (by omega)
    refine ⟨m', cs', ?_, h4, h5, h6⟩
    have hpk : peekOf cs = a := by
      rw [peek_rs, h]
      cases hq : pieceI x ++ (r.flatMap pieceI ++ rest) with
      | nil => rw [hq] at ha; cases ha
      | cons u v => rw [hq] at ha; cases ha; rfl
    have hc : (decide ((cs.length : Int) > 0) && !(peekOf cs == 41)) = true := by
      have : 0 < cs.length := by omega
      rw [hpk]; simp [hna.1]
      omega
    have hb : eatB barB cs = false := by rw [bar_eq, eatB_one, hpk]; simp; exact hna.2.2.2.2.2
    rw [exprLoop_ok hc hb h1, h3]
    simp

theorem join_cons2 (x y : List Int) (r : List (List Int)) : joinI [124] (x :: y :: r) = x ++ 124 :: joinI [124] (y :: r) := by simp [joinI]

theorem loop_alts {ex : List Ch → Int → PR Nd} {k : Nat} (hE : ExGot ex k) (n : Int) : ∀ (xs : List Nd), xs ≠ [] → (∀ y ∈ xs, Ok y ∧ y.kind ≠ 7) → ∀ (g g' : Int), nums xs g = some g' → 0 ≤ g → g' ≤ 8 → ∀ (cs : List Ch) (rest : List Int), rsOf cs = joinI [124] (xs.map putI) ++ rest → (rest = [] ∨ rest.head? = some 41) → cs.length ≤ k →
    ∀ (m : Nat) (all : List Nd), cs.length < m → Got (exprLoop (pieceF ex n) m all [] cs g) (altN (all ++ xs)) rest g'
  | [], h, _, _, _, _, _, _, _, _, _, _, _, _, _, _ => absurd rfl h
  | [x], _, hx, g, g', hn, h0, h8, cs, rest, h, hs, hk, m, all, hm => by
    obtain ⟨hx, hx7⟩ := hx x (by simp)
    obtain ⟨b1, b2, b3, b4⟩ := branch_ok hx
    rw [nums_one, ← b3 g] at hn
    simp only [List.map_cons, List.map_nil, joinI, ← b4 hx7] at h
    have hst : Stop rest := hs.elim .inl fun h => .inr (.inl h)
    obtain ⟨m', cs', h1, h2, h3, _⟩ := loop_pieces hE n (branch x) b1 g g' hn h0 h8 cs rest h hst.safe hk m all [] hm
    obtain ⟨m', rfl⟩ : ∃ q, m' = q + 1 := ⟨m' - 1, by omega⟩
    have hc : (decide ((cs'.length : Int) > 0) && !(peekOf cs' == 41)) = false := by
      rcases hs with rfl | hs
      · have : cs'.length = 0 := by rw [← rsOf_length, h2]; rfl
        simp [this]
      · have : peekOf cs' = 41 := by
          rw [peek_rs, h2]
          cases rest with
          | nil => cases hs
          | cons a b => simp at hs ⊢; exact hs
        simp [this]
    refine ⟨cs', ?_, h2⟩
    rw [h1, exprLoop_end hc, List.nil_append, b2]
  | x :: y :: r, _, hx, g, g', hn, h0, h8, cs, rest, h, hs, hk, m, all, hm => by
    obtain ⟨hx1, hx7⟩ := hx x (by simp)
    obtain ⟨b1, b2, b3, b4⟩ := branch_ok hx1
    obtain ⟨g1, hn1, hn2⟩ := nums_cons hn
    have hle1 := num_le _ _ _ hn1
    have hle2 := nums_le _ _ _ hn2
    rw [← b3 g] at hn1
    simp only [List.map_cons] at h
    rw [join_cons2, ← b4 hx7, List.append_assoc] at h
    have hst : Stop (124 :: joinI [124] (putI y :: r.map putI) ++ rest) := .inr (.inr rfl)
    obtain ⟨m', cs', h1, h2, h3, h3k⟩ := loop_pieces hE n (branch x) b1 g g1 hn1 h0 (by omega) cs _ h hst.safe hk m all [] hm
    obtain ⟨m', rfl⟩ : ∃ q, m' = q + 1 := ⟨m' - 1, by omega⟩
    obtain ⟨h4, h5⟩ := eatB_yes (b := 124) (cs := cs') h2
    have hpk : peekOf cs' = 124 := peek_cons h2
    have hl : (eatR ⟨#[124]⟩ cs').length < cs'.length := by rw [eatR_one h4]; exact len_drop (a := 124) h2
    have hc : (decide ((cs'.length : Int) > 0) && !(peekOf cs' == 41)) = true := by
      have : 0 < cs'.length := by omega
      rw [hpk]; simp
      omega
    obtain ⟨cs2, h6, h7⟩ := loop_alts hE n (y :: r) (by simp) (fun z hz => hx z (by simp at hz ⊢; exact .inr hz)) g1 g' hn2 (by omega) h8 (eatR ⟨#[124]⟩ cs') rest h5 hs (by omega) m' (all ++ [x]) (by omega)
    refine ⟨cs2, ?_, h7⟩
    rw [h1, exprLoop_bar hc h4, List.nil_append, b2]
    rw [bar_eq]
    simpa using h6

/-- WHAT WAS PUT IS PARSED BACK. -/
theorem exprF_got (n : Int) : ∀ k, ExGot (exprF k n) k
  | 0 => fun x hx g g' hn h0 h8 cs rest h hs hk => absurd hk (Nat.not_lt_zero _)
  | k + 1 => fun x hx g g' hn h0 h8 cs rest h hs hk => by
    obtain ⟨a1, a2, a3, a4, a5⟩ := alts_ok hx
    have := loop_alts (exprF_got n k) n (alts x) a1 a2 g g' (by rw [a4]; exact hn) h0 h8 cs rest (by rw [a5]; exact h) hs (by omega) (cs.length + 1) [] (by omega)
    rw [List.nil_append, a3] at this
    exact this
end Go.Av

namespace Go.Av
open Go.RowKit

/-! ### what the parser tells is in normal form -/
def loP (x : Int) : Prop := okR x = true ∧ (x = 0 ∨ okR (x - 1) = true)
def hiP (x : Int) : Prop := okR x = true ∧ (x = 1114111 ∨ okR (x + 1) = true)
def niceR (r : Int) : Prop := r = -1 ∨ (loP r ∧ hiP r)
def Nice (cs : List Ch) : Prop := ∀ c ∈ cs, niceR c.r
theorem Nice.suf {cs cs' : List Ch} (h : Nice cs) (hs : cs' <:+ cs) : Nice cs' := fun c hc => h c (hs.subset hc)
theorem Nice.peek {cs : List Ch} (h : Nice cs) : niceR (peekOf cs) := by
  cases cs with
  | nil => exact .inl rfl
  | cons c r => exact h c (by simp)
theorem okR_iff {r : Int} : okR r = true ↔ (0 ≤ r ∧ r < 55296) ∨ (57344 ≤ r ∧ r ≤ 1114111) := by simp [okR]
theorem Nice.runes {cs : List Ch} (h : Nice cs) : Runes cs := fun c hc => by
  rcases h c hc with h | ⟨⟨h, _⟩, _⟩
  · omega
  · rw [okR_iff] at h; omega

structure CI (c : Cls) : Prop where
  norm : Norm c
  may : ∀ r ∈ c, r.may = true
  lo : ∀ r ∈ c, loP r.lo
  hi : ∀ r ∈ c, hiP r.hi

theorem mergeStep_pq {P Q : Int → Prop} {out : Cls} {r : Rg} (ho : ∀ q ∈ out, P q.lo ∧ Q q.hi) (hr : P r.lo ∧ Q r.hi) : ∀ q ∈ mergeStep out r, P q.lo ∧ Q q.hi := by
  unfold mergeStep
  split
  · rename_i p hp
    have hpm := ho p (List.mem_of_getLast? hp)
    split
    · intro q hq
      rcases List.mem_append.1 hq with hq | hq
      · exact ho q (List.dropLast_subset _ hq)
      · simp at hq; subst hq
        refine ⟨hpm.1, ?_⟩
        simp only [imax]
        split
        · exact hr.2
        · exact hpm.2
    · intro q hq
      rcases List.mem_append.1 hq with hq | hq
      · exact ho q hq
      · simp at hq; subst hq; exact hr
  · intro q hq; simp at hq; subst hq; exact hr
theorem merge_pq {P Q : Int → Prop} : ∀ (l out : Cls), (∀ q ∈ out, P q.lo ∧ Q q.hi) → (∀ r ∈ l, P r.lo ∧ Q r.hi) → ∀ q ∈ l.foldl mergeStep out, P q.lo ∧ Q q.hi
  | [], out, ho, _ => ho
  | r :: l, out, ho, hl => by
    rw [List.foldl_cons]
    exact merge_pq l _ (mergeStep_pq ho (hl r (by simp))) fun q hq => hl q (by simp [hq])
theorem CI.of {l : Cls} (h : ∀ r ∈ l, r.may = true → loP r.lo ∧ hiP r.hi) : CI (ofL l) := by
  have hpq : ∀ q ∈ ofL l, loP q.lo ∧ hiP q.hi := by
    unfold ofL
    refine merge_pq _ _ (by simp) fun r hr => ?_
    have := List.mem_filter.1 (sortLo_mem.1 hr)
    exact h r this.1 this.2
  exact ⟨(ofL_spec l).1, ofL_may l, fun r hr => (hpq r hr).1, fun r hr => (hpq r hr).2⟩

theorem gaps_ci : ∀ (c : Cls) (low : Int), CI c → (low = 0 ∨ (low = 1114112 ∨ loP low)) → ∀ r ∈ gaps c low, r.may = true → loP r.lo ∧ hiP r.hi
  | [], low, _, hl, r, hr, hm => by
    simp only [gaps, List.mem_singleton] at hr
    subst hr
    obtain ⟨b0, b1, b2⟩ := may_bounds hm
    simp only at b0 b1 b2 ⊢
    refine ⟨?_, by decide, .inl rfl⟩
    rcases hl with rfl | rfl | h
    · exact ⟨by decide, .inl rfl⟩
    · omega
    · exact h
  | q :: c, low, hc, hl, r, hr, hm => by
    have hq1 := hc.lo q (by simp)
    have hq2 := hc.hi q (by simp)
    simp only [gaps, List.mem_cons] at hr
    rcases hr with rfl | hr
    · obtain ⟨b0, b1, b2⟩ := may_bounds hm
      simp only at b0 b1 b2 ⊢
      refine ⟨?_, ?_⟩
      · rcases hl with rfl | rfl | h
        · exact ⟨by decide, .inl rfl⟩
        · omega
        · exact h
      · rcases hq1.2 with h | h
        · omega
        · exact ⟨h, .inr (by rw [Int.sub_add_cancel]; exact hq1.1)⟩
    · refine gaps_ci c (q.hi + 1) ⟨⟨fun r hr => hc.norm.1 r (by simp [hr]), (List.pairwise_cons.1 hc.norm.2).2⟩, fun r hr => hc.may r (by simp [hr]), fun r hr => hc.lo r (by simp [hr]), fun r hr => hc.hi r (by simp [hr])⟩ ?_ r hr hm
      rcases hq2.2 with h | h
      · right; left; omega
      · right; right; exact ⟨h, .inr (by rw [Int.add_sub_cancel]; exact hq2.1)⟩
theorem CI.not {c : Cls} (h : CI c) : CI (notL c) := by
  unfold notL
  rw [ofL_norm h.norm h.may]
  exact .of (gaps_ci c 0 h (.inl rfl))
theorem CI.union {a b : Cls} (ha : CI a) (hb : CI b) : CI (unionL a b) := .of fun r hr _ => by
  rcases List.mem_append.1 hr with hr | hr
  · exact ⟨ha.lo r hr, ha.hi r hr⟩
  · exact ⟨hb.lo r hr, hb.hi r hr⟩

theorem nice_small {x : Int} (h0 : 0 ≤ x) (h1 : x < 50000) : loP x ∧ hiP x := by
  simp only [loP, hiP, okR_iff]; omega
theorem CI.single {r : Int} (h : loP r ∧ hiP r) : CI (ofL [⟨r, r⟩]) := .of fun q hq _ => by simp at hq; subst hq; exact h
theorem CI.esc (r : Int) : CI (escL r) := by
  have hnil : CI [] := ⟨⟨by simp, List.Pairwise.nil⟩, by simp, by simp, by simp⟩
  have hc : ∀ l : Cls, (∀ q ∈ l, 0 ≤ q.lo ∧ q.lo < 50000 ∧ 0 ≤ q.hi ∧ q.hi < 50000) → CI (ofL l) := fun l h => .of fun q hq _ => ⟨(nice_small (h q hq).1 (h q hq).2.1).1, (nice_small (h q hq).2.2.1 (h q hq).2.2.2).2⟩
  unfold escL
  repeat' split
  · exact hc _ (by simp)
  · exact hc _ (by simp)
  · exact hc _ (by simp)
  · exact hc _ (by simp)
  · exact hc _ (by simp)
  · rename_i h
    have : r = 45 ∨ isR r specB = true := by simpa using h
    refine hc _ ?_
    intro q hq; simp at hq; subst hq
    rw [spec_iff] at this; simp only; omega
  · exact hnil

theorem member_ci {cs cs' : List Ch} {f g g' : Int} {c : Cls} (hv : Nice cs) (h : memberF cs f g = .ok (c, cs', g')) : CI c := by
  unfold memberF at h
  split at h
  · split at h
    · simp only [Except.ok.injEq, Prod.mk.injEq] at h
      rw [← h.1]; exact .esc _
    · cases h
  · split at h
    · rename_i h2
      simp only [Except.ok.injEq, Prod.mk.injEq] at h
      rw [← h.1]
      simp only [Bool.and_eq_true, decide_eq_true_eq] at h2
      rcases hv.peek with h3 | h3
      · omega
      · exact .single h3
    · cases h

theorem many_ge : ∀ (l : Cls) (m : Int), (∀ r ∈ l, r.may = true) → m + l.length ≤ l.foldl (fun m r => m + (r.hi - r.lo + 1)) m
  | [], m, _ => by simp
  | r :: l, m, h => by
    have h1 := many_ge l (m + (r.hi - r.lo + 1)) fun q hq => h q (by simp [hq])
    obtain ⟨_, _, h2⟩ := may_bounds (h r (by simp))
    simp only [List.foldl_cons, List.length_cons]
    omega
theorem many_one {c : Cls} (hc : CI c) (h : (manyL c == 1) = true) : ∃ x, c = [⟨x, x⟩] := by
  have h := eq_of_beq h
  unfold manyL at h
  rw [ofL_norm hc.norm hc.may] at h
  cases c with
  | nil => simp at h
  | cons r l =>
    have h1 := many_ge l (0 + (r.hi - r.lo + 1)) fun q hq => hc.may q (by simp [hq])
    obtain ⟨_, _, h2⟩ := may_bounds (hc.may r (by simp))
    rw [List.foldl_cons] at h
    rw [h] at h1
    have hl : l = [] := List.length_eq_zero_iff.1 (by omega)
    subst hl
    obtain ⟨lo, hi⟩ := r
    simp only [List.length_nil] at h1 h2
    simp at h h1
    exact ⟨lo, by rw [show hi = lo by omega]⟩

theorem item_ci {cs cs' : List Ch} {f g g' : Int} {c : Cls} (hv : Nice cs) (h : itemF cs f g = .ok (c, cs', g')) : CI c := by
  unfold itemF at h
  split at h
  · cases h
  · rename_i low cs1 g1 h1
    have hl := member_ci hv h1
    obtain ⟨_, _, hs1, _, _⟩ := memberF_ok hv.runes h1
    split at h
    · split at h
      · cases h
      · rename_i high cs2 g2 h2
        have hh := member_ci (hv.suf ((eatR_suf dashB cs1).trans hs1)) h2
        split at h
        · rename_i hok
          simp only [itemOk, Bool.and_eq_true, decide_eq_true_eq] at hok
          obtain ⟨k1, k2, k3⟩ := hok
          obtain ⟨x, rfl⟩ := many_one hl k1
          obtain ⟨y, rfl⟩ := many_one hh k2
          simp only [Except.ok.injEq, Prod.mk.injEq] at h
          rw [← h.1]
          refine .of fun q hq _ => ?_
          simp at hq; subst hq
          exact ⟨hl.lo ⟨x, x⟩ (by simp), hh.hi ⟨y, y⟩ (by simp)⟩
        · cases h
    · simp only [Except.ok.injEq, Prod.mk.injEq] at h
      rw [← h.1]; exact hl

theorem clsLoop_ci {k : Nat} : ∀ {c d : Cls} {cs cs' : List Ch} {f g g' : Int}, Nice cs → CI c → clsLoop k c cs f g = .ok (d, cs', g') → CI d := by
  induction k with
  | zero => intro c d cs cs' f g g' _ _ h; cases h
  | succ k ih =>
    intro c d cs cs' f g g' hv hc h
    simp only [clsLoop] at h
    split at h
    · simp only [Except.ok.injEq, Prod.mk.injEq] at h
      rw [← h.1]; exact hc
    · split at h
      · cases h
      · rename_i x cs1 g1 h1
        obtain ⟨_, _, hs, _, _⟩ := itemF_ok hv.runes h1
        exact ih (hv.suf hs) (hc.union (item_ci hv h1)) h

theorem CI.ok {c : Cls} (h : CI c) (hl : 0 < c.length) (h64 : c.length ≤ 64) : ClsOk c :=
  ⟨by intro e; subst e; simp at hl, h64, h.norm, h.may, fun r hr => (h.lo r hr).1, fun r hr => (h.hi r hr).1⟩

theorem class_ok {cs : List Ch} {f g : Int} (hv : Nice cs) {x : Nd} {cs' : List Ch} {g' : Int} (h : classF cs f g = .ok (x, cs', g')) : Ok x ∧ num x g = some g' := by
  have hgg := h
  unfold classF at h
  have hv1 := hv.suf (eatR_suf hatB cs)
  split at h
  · cases h
  · rename_i c cs1 g1 h1
    obtain ⟨_, _, hs, _, hg1⟩ := itemF_ok hv1.runes h1
    have hc := item_ci hv1 h1
    cases hL : clsLoop (cs1.length + 1) c cs1 f g1 with
    | error e => rw [hL] at h; cases h
    | ok p =>
      obtain ⟨c2, cs2, g2⟩ := p
      rw [hL] at h
      have hc2 := clsLoop_ci (hv1.suf hs) hc hL
      have hg2 : g2 = g1 := by
        have key : ∀ (k : Nat) (c d : Cls) (cs cs' : List Ch) (g g' : Int), Runes cs → clsLoop k c cs f g = .ok (d, cs', g') → g' = g := by
          intro k
          induction k with
          | zero => intro c d cs cs' g g' _ h; cases h
          | succ k ih =>
            intro c d cs cs' g g' hv h
            simp only [clsLoop] at h
            split at h
            · simp only [Except.ok.injEq, Prod.mk.injEq] at h; exact h.2.2.symm
            · split at h
              · cases h
              · rename_i x cs1 g1 h1
                obtain ⟨_, _, hs, _, hg⟩ := itemF_ok hv h1
                rw [ih _ _ _ _ _ _ (hv.suf hs) h, hg]
        exact key _ _ _ _ _ _ _ (hv1.suf hs).runes hL
      generalize eatB hatB cs = neg at h
      have hd : CI (if neg then notL c2 else c2) := by
        cases neg
        · exact hc2
        · exact hc2.not
      cases hk : (decide ((((if neg then notL c2 else c2)).length : Int) > 0) && decide (((if neg then notL c2 else c2).length : Int) ≤ 64)) with
      | true =>
        rw [clsFin_ok rfl hk] at h
        simp only [Except.ok.injEq, Prod.mk.injEq] at h
        obtain ⟨rfl, rfl, rfl⟩ := h
        simp only [Bool.and_eq_true, decide_eq_true_eq] at hk
        refine ⟨.one _ (hd.ok (by omega) (by omega)), ?_⟩
        rw [hg2, hg1]
        simp [oneN, num, nums]
      | false =>
        rw [clsFin_err rfl hk] at h
        cases h
end Go.Av

namespace Go.Av
open Go.RowKit

/-- What is told of a node. -/
def TN (g : Int) (r : PR Nd) : Prop := ∀ x cs' g', r = .ok (x, cs', g') → Ok x ∧ num x g = some g'
theorem TN.err {g : Int} {e : Int × Int} : TN g (.error e) := fun x cs' g' h => by cases h
theorem TN.mk {g : Int} {x : Nd} {cs : List Ch} (h : Ok x) (hn : num x g = some g) : TN g (.ok (x, cs, g)) := fun y cs' g' e => by
  simp only [Except.ok.injEq, Prod.mk.injEq] at e
  obtain ⟨rfl, _, rfl⟩ := e
  exact ⟨h, hn⟩

theorem num_one (c : Cls) (g : Int) : num (oneN c) g = some g := by simp [oneN, num, nums]
theorem num_plain {k : Int} (h : k ≠ 9) (g : Int) : num (plainN k) g = some g := by simp [plainN, num, nums, h]

theorem dot_ok : ClsOk dotL := by
  have h : CI dotL := (CI.single (nice_small (by omega : (0 : Int) ≤ 10) (by omega))).not
  exact h.ok (by decide) (by decide)

theorem escaped_tn {cs : List Ch} {f g : Int} : TN g (escapedF cs f g) := by
  unfold escapedF
  split
  · exact .mk (.plain 4 (by omega)) (num_plain (by decide) _)
  · split
    · exact .mk (.plain 5 (by omega)) (num_plain (by decide) _)
    · split
      · rename_i h
        have hl : (escL (peekOf cs)).length ≤ 4 := by
          unfold escL
          repeat' split
          all_goals first | exact Nat.le_trans (ofL_length _) (by simp) | simp
        exact .mk (.one _ ((CI.esc _).ok h (by omega))) (num_one _ _)
      · exact .err

theorem numOf_le {l : List Int} {n : Nat} (h : numOf l = some n) : n ≤ 20 := by
  have := List.mem_of_find?_eq_some h
  simp at this; omega
theorem numF_le {cs cs' : List Ch} {f g g' v : Int} (h : numF cs f g = .ok (v, cs', g')) : 0 ≤ v ∧ v ≤ 20 ∧ g' = g := by
  unfold numF at h
  split at h
  · rename_i n hn
    have := numOf_le hn
    simp only [Except.ok.injEq, Prod.mk.injEq] at h
    omega
  · cases h
theorem braces_le {cs cs' : List Ch} {f g g' a b : Int} (h : bracesF cs f g = .ok ((a, b), cs', g')) : 0 ≤ a ∧ a ≤ 20 ∧ (b = -1 ∨ a ≤ b ∧ b ≤ 20) ∧ g' = g := by
  unfold bracesF at h
  split at h
  · cases h
  · rename_i low cs1 g1 h1
    have hn1 := numF_le h1
    split at h
    · simp only [Except.ok.injEq, Prod.mk.injEq] at h; omega
    · split at h
      · split at h
        · simp only [Except.ok.injEq, Prod.mk.injEq] at h; omega
        · split at h
          · cases h
          · rename_i high cs3 g3 h3
            have hn3 := numF_le h3
            split at h
            · rename_i hc
              simp only [Bool.and_eq_true, decide_eq_true_eq] at hc
              simp only [Except.ok.injEq, Prod.mk.injEq] at h; omega
            · cases h
      · cases h

/-- So is what a parser of expressions tells. -/
def ExT (ex : List Ch → Int → PR Nd) : Prop := ∀ cs g, Nice cs → 0 ≤ g → TN g (ex cs g)

theorem close_tn {num_ n g g0 : Int} {r : PR Nd} (h : TN g r) (hg : (num_ ≤ 0 ∧ g0 = g) ∨ (0 < num_ ∧ num_ = g ∧ g = g0 + 1)) : TN g0 (closeF num_ n r) := by
  unfold closeF
  split
  · exact .err
  · rename_i x cs1 g1
    obtain ⟨h1, h2⟩ := h x cs1 g1 rfl
    split
    · intro y cs' g' e
      simp only [Except.ok.injEq, Prod.mk.injEq] at e
      obtain ⟨rfl, _, rfl⟩ := e
      rcases hg with ⟨k1, rfl⟩ | ⟨k1, rfl, rfl⟩
      · rw [if_neg (by omega)]; exact ⟨h1, h2⟩
      · rw [if_pos (by omega)]
        exact ⟨.group _ _ h1, by simp only [groupN, num, if_true, nums_one, h2]⟩
    · exact .err

theorem atom_tn {ex : List Ch → Int → PR Nd} (hE : ExT ex) (n : Int) {cs : List Ch} (hv : Nice cs) {g : Int} (h0 : 0 ≤ g) : TN g (atomF ex n cs g) := by
  have hd : Nice (cs.drop 1) := hv.suf (List.drop_suffix _ _)
  unfold atomF
  split
  · unfold groupF
    split
    · exact close_tn (hE _ _ (hd.suf (eatR_suf _ _)) h0) (.inl ⟨Int.le_refl _, rfl⟩)
    · split
      · exact .err
      · exact close_tn (hE _ _ hd (by omega)) (.inr ⟨by omega, rfl, rfl⟩)
  · split
    · exact .mk (.one _ dot_ok) (num_one _ _)
    · split
      · exact .mk (.plain 2 (by omega)) (num_plain (by decide) _)
      · split
        · exact .mk (.plain 3 (by omega)) (num_plain (by decide) _)
        · split
          · exact escaped_tn
          · split
            · exact fun x cs' g' h => class_ok hd h
            · split
              · rename_i h
                simp only [Bool.and_eq_true, decide_eq_true_eq] at h
                rcases hv.peek with h3 | h3
                · omega
                · have hb : 0 ≤ peekOf cs ∧ peekOf cs ≤ 1114111 := by have := h3.1.1; rw [okR_iff] at this; omega
                  refine .mk (.one _ ((CI.single h3).ok ?_ ?_)) (num_one _ _)
                  · rw [ofL_single (single_may hb.1 hb.2)]; simp
                  · rw [ofL_single (single_may hb.1 hb.2)]; simp
              · exact .err

theorem rep_tn {n : Int} {x : Nd} (hx : Ok x) {cs : List Ch} {g0 g : Int} (hn : num x g0 = some g) : TN g0 (repF n x cs g) := by
  have hr : ∀ a b z, num (repN a b z x) g0 = some g := fun a b z => by
    simp only [repN, num]
    rw [if_neg (by decide), nums_one]; exact hn
  have key : ∀ (a b : Int) (cs' : List Ch), 0 ≤ a → a ≤ 20 → (b = -1 ∨ a ≤ b ∧ b ≤ 20) → TN g0 (lazyF a b x cs' g) := by
    intro a b cs' h1 h2 h3 y cs2 g' e
    unfold lazyF at e
    simp only [Except.ok.injEq, Prod.mk.injEq] at e
    obtain ⟨rfl, _, rfl⟩ := e
    exact ⟨.rep _ _ _ _ h1 h2 h3 hx, hr _ _ _⟩
  unfold repF
  split
  · exact key _ _ _ (by decide) (by decide) (.inl rfl)
  · split
    · exact key _ _ _ (by decide) (by decide) (.inl rfl)
    · split
      · exact key _ _ _ (by decide) (by decide) (.inr (by decide))
      · split
        · split
          · exact .err
          · rename_i a b cs2 g2 hb
            obtain ⟨h1, h2, h3, rfl⟩ := braces_le hb
            exact key _ _ _ h1 h2 h3
        · intro y cs2 g' e
          simp only [Except.ok.injEq, Prod.mk.injEq] at e
          obtain ⟨rfl, _, rfl⟩ := e
          exact ⟨hx, hn⟩

theorem piece_tn {ex : List Ch → Int → PR Nd} (hE : ExT ex) (n : Int) {cs : List Ch} (hv : Nice cs) {g : Int} (h0 : 0 ≤ g) : TN g (pieceF ex n cs g) := by
  unfold pieceF
  split
  · exact .err
  · rename_i x cs1 g1 h1
    obtain ⟨hx, hn⟩ := atom_tn hE n hv h0 _ _ _ h1
    exact rep_tn hx hn

/-! ### sequences and choices -/
theorem nums_flat {k : Int} (hk : k = 6 ∨ k = 7) : ∀ (l : List Nd) (g : Int), nums (flatL k l) g = nums l g
  | [], g => rfl
  | x :: r, g => by
    have e : flatL k (x :: r) = flat1 k x ++ flatL k r := by simp [flatL, List.flatMap_cons]
    rw [e, nums_append]
    have h1 : nums (flat1 k x) g = num x g := by
      unfold flat1
      split
      · rename_i h
        have h := eq_of_beq h
        cases x with
        | mk k' c a b z m ks =>
          have h : k' = k := h
          have : ¬ k' = 9 := by omega
          simp only [Nd.kids, num, this, if_false]
      · exact nums_one x g
    rw [h1]
    simp only [nums]
    cases num x g with
    | none => rfl
    | some g1 => exact nums_flat hk r g1
theorem nums_filter : ∀ (l : List Nd) (g : Int), (∀ y ∈ l, Ok y) → nums (l.filter fun x => !(x.kind == 0)) g = nums l g
  | [], g, _ => rfl
  | x :: r, g, h => by
    have hr := fun g1 => nums_filter r g1 fun y hy => h y (by simp [hy])
    by_cases h0 : x.kind = 0
    · have hx := h x (by simp)
      have : num x g = some g := by
        cases hx with
        | empty => simp [emptyN, num, nums]
        | one c _ => simp [oneN, Nd.kind] at h0
        | plain k hk => simp [plainN, Nd.kind] at h0; omega
        | cat ks => simp [Nd.kind] at h0
        | alt ks => simp [Nd.kind] at h0
        | rep => simp [repN, Nd.kind] at h0
        | group => simp [groupN, Nd.kind] at h0
      have e : (x.kind == 0) = true := by simp [h0]
      simp only [List.filter_cons, e, Bool.not_true, Bool.false_eq_true, if_false, nums, this, Option.bind_some, hr]
    · have e : (x.kind == 0) = false := by simp [h0]
      simp only [List.filter_cons, e, Bool.not_false, if_true, nums]
      cases num x g with
      | none => rfl
      | some g1 => exact hr g1

theorem flat_ok {k : Int} (hk : k = 6 ∨ k = 7) {l : List Nd} (h : ∀ y ∈ l, Ok y) : ∀ y ∈ flatL k l, Ok y ∧ y.kind ≠ k := by
  intro y hy
  simp only [flatL, List.mem_flatMap] at hy
  obtain ⟨x, hx, hy⟩ := hy
  have hxo := h x hx
  unfold flat1 at hy
  split at hy
  · rename_i hkk
    have hkk := eq_of_beq hkk
    cases hxo with
    | empty => simp [emptyN, Nd.kind] at hkk; omega
    | one c _ => simp [oneN, Nd.kind] at hkk; omega
    | plain k' _ => simp [plainN, Nd.kids] at hy
    | cat ks hl h1 h2 =>
      have : k = 6 := by simp [Nd.kind] at hkk; omega
      subst this
      exact ⟨h1 y hy, (h2 y hy).2⟩
    | alt ks hl h1 h2 =>
      have : k = 7 := by simp [Nd.kind] at hkk; omega
      subst this
      exact ⟨h1 y hy, h2 y hy⟩
    | rep => simp [repN, Nd.kind] at hkk; omega
    | group => simp [groupN, Nd.kind] at hkk; omega
  · rename_i hkk
    simp at hy; subst hy
    exact ⟨hxo, by simpa using hkk⟩

theorem catN_ok {l : List Nd} (h : ∀ y ∈ l, Ok y) : Ok (catN l) ∧ ∀ g, num (catN l) g = nums l g := by
  have hk : ∀ y ∈ catK l, Ok y ∧ y.kind ≠ 0 ∧ y.kind ≠ 6 := by
    intro y hy
    unfold catK at hy
    obtain ⟨h1, h2⟩ := List.mem_filter.1 hy
    obtain ⟨h3, h4⟩ := flat_ok (.inl rfl) h y h1
    exact ⟨h3, by simpa using h2, h4⟩
  have hn : ∀ g, nums (catK l) g = nums l g := fun g => by
    unfold catK
    rw [nums_filter _ _ fun y hy => (flat_ok (.inl rfl) h y hy).1, nums_flat (.inl rfl)]
  unfold catN
  split
  · rename_i e
    rw [e] at hn
    exact ⟨.empty, fun g => by rw [← hn g]; simp [emptyN, num, nums]⟩
  · rename_i x e
    rw [e] at hn hk
    exact ⟨(hk x (by simp)).1, fun g => by rw [← hn g, nums_one]⟩
  · rename_i x y r e
    rw [e] at hn hk
    exact ⟨.cat _ (by simp) (fun z hz => (hk z hz).1) (fun z hz => (hk z hz).2), fun g => by rw [← hn g]; simp only [num]; rw [if_neg (by decide)]⟩

theorem flat_len : ∀ {l : List Nd}, (∀ y ∈ l, Ok y) → l.length ≤ (flatL 7 l).length
  | [], _ => by simp
  | x :: r, h => by
    have h1 := flat_len (l := r) fun y hy => h y (by simp [hy])
    have e : flatL 7 (x :: r) = flat1 7 x ++ flatL 7 r := by simp [flatL, List.flatMap_cons]
    have h2 : 1 ≤ (flat1 7 x).length := by
      unfold flat1
      split
      · rename_i hk
        have hk := eq_of_beq hk
        cases h x (by simp) with
        | empty => simp [emptyN, Nd.kind] at hk
        | one c _ => simp [oneN, Nd.kind] at hk
        | plain k' h => simp [plainN, Nd.kind] at hk; omega
        | cat ks => simp [Nd.kind] at hk
        | alt ks hl => simp only [Nd.kids]; omega
        | rep => simp [repN, Nd.kind] at hk
        | group => simp [groupN, Nd.kind] at hk
      · simp
    rw [e, List.length_append, List.length_cons]; omega

theorem altN_ok {l : List Nd} (h : ∀ y ∈ l, Ok y) (hne : l ≠ []) : Ok (altN l) ∧ ∀ g, num (altN l) g = nums l g := by
  unfold altN
  split
  · rename_i x
    exact ⟨h x (by simp), fun g => (nums_one x g).symm⟩
  · rename_i h1
    have hf := fun y hy => flat_ok (k := 7) (.inr rfl) h y hy
    have hl := flat_len h
    have : 2 ≤ l.length := by
      match l, hne, h1 with
      | [x], _, h1 => exact absurd rfl (h1 x)
      | _ :: _ :: _, _, _ => simp
    exact ⟨.alt _ (by omega) (fun y hy => (hf y hy).1) (fun y hy => (hf y hy).2), fun g => by simp only [num]; rw [if_neg (by decide), nums_flat (.inr rfl)]⟩

theorem loop_tn {ex : List Ch → Int → PR Nd} (hE : ExT ex) (hex : ∀ cs g, Runes cs → GoodE cs (ex cs g)) (hexg : ∀ cs g, GoodG g (ex cs g)) (n : Int) : ∀ (k : Nat) (all one : List Nd) (cs : List Ch) (g g0 : Int), (∀ y ∈ all, Ok y) → (∀ y ∈ one, Ok y) → nums (all ++ one) g0 = some g → Nice cs → 0 ≤ g →
    TN g0 (exprLoop (pieceF ex n) k all one cs g)
  | 0, _, _, _, _, _, _, _, _, _, _ => .err
  | k + 1, all, one, cs, g, g0, ha, ho, hn, hv, h0 => by
    have hc := catN_ok ho
    have hac : ∀ y ∈ all ++ [catN one], Ok y := by
      intro y hy
      rcases List.mem_append.1 hy with hy | hy
      · exact ha y hy
      · simp at hy; subst hy; exact hc.1
    have hnc : nums (all ++ [catN one]) g0 = some g := by
      rw [nums_append] at hn ⊢
      cases h1 : nums all g0 with
      | none => rw [h1] at hn; cases hn
      | some g1 =>
        rw [h1] at hn
        simp only [Option.bind_some] at hn ⊢
        rw [nums_one, hc.2]; exact hn
    simp only [exprLoop]
    split
    · split
      · exact loop_tn hE hex hexg n k _ _ _ g g0 hac (by simp) (by simpa using hnc) (hv.suf (eatR_suf _ _)) h0
      · split
        · exact .err
        · rename_i x cs1 g1 h1
          obtain ⟨hx, hnx⟩ := piece_tn hE n hv h0 _ _ _ h1
          have hs := (pieceF_good hex hv.runes g _ _ _ h1).1
          have hgg := pieceF_g hexg cs g _ _ _ h1
          refine loop_tn hE hex hexg n k all (one ++ [x]) cs1 g1 g0 ha ?_ ?_ (hv.suf hs) (by omega)
          · intro y hy
            rcases List.mem_append.1 hy with hy | hy
            · exact ho y hy
            · simp at hy; subst hy; exact hx
          · rw [← List.append_assoc, nums_append, hn]
            simp only [Option.bind_some, nums_one]; exact hnx
    · obtain ⟨h1, h2⟩ := altN_ok hac (by simp)
      intro y cs' g' e
      simp only [Except.ok.injEq, Prod.mk.injEq] at e
      obtain ⟨rfl, _, rfl⟩ := e
      exact ⟨h1, by rw [h2]; exact hnc⟩

theorem exprF_tn (n : Int) : ∀ k cs g, Nice cs → 0 ≤ g → TN g (exprF k n cs g)
  | 0, _, _, _, _ => .err
  | k + 1, cs, g, hv, h0 =>
    loop_tn (fun cs g hv h0 => exprF_tn n k cs g hv h0) (fun cs g hv => exprF_good k n cs g hv) (fun cs g => exprF_g k n cs g) n _ [] [] cs g g (by simp) (by simp) (by simp [nums]) hv h0
end Go.Av

namespace Go.Av
open Go.RowKit

/-! ### where something is wrong -/
def TE {α : Type} (n : Int) (r : PR α) : Prop := ∀ c a, r = .error (c, a) → (c = 2 ∨ c = 3) ∧ 0 ≤ a ∧ a ≤ n
theorem TE.ok {α : Type} {n : Int} {x : α × List Ch × Int} : TE n (.ok x) := fun c a h => by cases h
theorem TE.mk {α : Type} {n a : Int} {c : Int} (hc : c = 2 ∨ c = 3) (h0 : 0 ≤ a) (h1 : a ≤ n) : TE (α := α) n (.error (c, a)) := fun c' a' h => by
  simp only [Except.error.injEq, Prod.mk.injEq] at h
  obtain ⟨rfl, rfl⟩ := h
  exact ⟨hc, h0, h1⟩
theorem TE.map {α β : Type} {n : Int} {r : PR α} (h : TE n r) {e : Int × Int} (he : r = .error e) : TE (α := β) n (.error e) := fun c a h' => by
  simp only [Except.error.injEq] at h'
  subst h'
  exact h _ _ he
def Pos (n : Int) (cs : List Ch) : Prop := ∀ c ∈ cs, 0 ≤ c.pos ∧ c.pos ≤ n
theorem Pos.suf {n : Int} {cs cs' : List Ch} (h : Pos n cs) (hs : cs' <:+ cs) : Pos n cs' := fun c hc => h c (hs.subset hc)
theorem Pos.at {n : Int} {cs : List Ch} (h : Pos n cs) (hn : 0 ≤ n) : 0 ≤ atOf cs n ∧ atOf cs n ≤ n := by
  cases cs with
  | nil => exact ⟨hn, Int.le_refl _⟩
  | cons c r => exact h c (by simp)

theorem member_te {n : Int} {f : Int} (hf0 : 0 ≤ f) (hf1 : f ≤ n) (cs : List Ch) (g : Int) : TE n (memberF cs f g) := by
  unfold memberF
  repeat' split
  all_goals first | exact .ok | exact .mk (.inl rfl) hf0 hf1
theorem item_te {n : Int} {f : Int} (hf0 : 0 ≤ f) (hf1 : f ≤ n) (cs : List Ch) (g : Int) : TE n (itemF cs f g) := by
  unfold itemF
  split
  · rename_i e h; exact (member_te hf0 hf1 _ _).map h
  · split
    · split
      · rename_i e h; exact (member_te hf0 hf1 _ _).map h
      · split
        · exact .ok
        · exact .mk (.inl rfl) hf0 hf1
    · exact .ok
theorem clsLoop_te {n : Int} {f : Int} (hf0 : 0 ≤ f) (hf1 : f ≤ n) : ∀ (k : Nat) (c : Cls) (cs : List Ch) (g : Int), Runes cs → cs.length < k → TE n (clsLoop k c cs f g)
  | 0, _, _, _, _, h => absurd h (Nat.not_lt_zero _)
  | k + 1, c, cs, g, hv, h => by
    simp only [clsLoop]
    split
    · exact .ok
    · split
      · rename_i e h; exact (item_te hf0 hf1 _ _).map h
      · rename_i x cs1 g1 h1
        obtain ⟨_, _, hs, hl, _⟩ := itemF_ok hv h1
        exact clsLoop_te hf0 hf1 k _ _ _ (hv.suf hs) (by omega)
theorem class_te {n : Int} {f : Int} (hf0 : 0 ≤ f) (hf1 : f ≤ n) (cs : List Ch) (g : Int) (hv : Runes cs) : TE n (classF cs f g) := by
  unfold classF
  have hv1 := hv.suf (eatR_suf hatB cs)
  split
  · rename_i e h; exact (item_te hf0 hf1 _ _).map h
  · rename_i c cs1 g1 h1
    obtain ⟨_, _, hs, _, _⟩ := itemF_ok hv1 h1
    have hL := clsLoop_te hf0 hf1 (cs1.length + 1) c cs1 g1 (hv1.suf hs) (by omega)
    cases hq : clsLoop (cs1.length + 1) c cs1 f g1 with
    | error e => exact hL.map hq
    | ok p =>
      obtain ⟨c2, cs2, g2⟩ := p
      cases hk : (decide ((((if eatB hatB cs then notL c2 else c2)).length : Int) > 0) && decide (((if eatB hatB cs then notL c2 else c2).length : Int) ≤ 64)) with
      | true => rw [clsFin_ok rfl hk]; exact .ok
      | false => rw [clsFin_err rfl hk]; exact .mk (.inl rfl) hf0 hf1
theorem escaped_te {n : Int} {f : Int} (hf0 : 0 ≤ f) (hf1 : f ≤ n) (cs : List Ch) (g : Int) : TE n (escapedF cs f g) := by
  unfold escapedF
  repeat' split
  all_goals first | exact .ok | exact .mk (.inl rfl) hf0 hf1
theorem numF_te {n : Int} {f : Int} (hf0 : 0 ≤ f) (hf1 : f ≤ n) (cs : List Ch) (g : Int) : TE n (numF cs f g) := by
  unfold numF
  split
  · exact .ok
  · exact .mk (.inl rfl) hf0 hf1
theorem braces_te {n : Int} {f : Int} (hf0 : 0 ≤ f) (hf1 : f ≤ n) (cs : List Ch) (g : Int) : TE n (bracesF cs f g) := by
  unfold bracesF
  split
  · rename_i e h; exact (numF_te hf0 hf1 _ _).map h
  · split
    · exact .ok
    · split
      · split
        · exact .ok
        · split
          · rename_i e h; exact (numF_te hf0 hf1 _ _).map h
          · split
            · exact .ok
            · exact .mk (.inl rfl) hf0 hf1
      · exact .mk (.inl rfl) hf0 hf1

theorem close_te {num_ n : Int} (hn : 0 ≤ n) {r : PR Nd} (h : TE n r) : TE n (closeF num_ n r) := by
  unfold closeF
  split
  · exact h
  · split
    · exact .ok
    · exact .mk (.inl rfl) hn (Int.le_refl _)

def ExE (ex : List Ch → Int → PR Nd) (n : Int) (k : Nat) : Prop := ∀ cs g, Runes cs → Pos n cs → cs.length < k → TE n (ex cs g)

theorem drop_lt {cs : List Ch} (h : 0 ≤ peekOf cs) : (cs.drop 1).length < cs.length := by have := peek_ne h; omega

theorem atom_te {ex : List Ch → Int → PR Nd} {n : Int} {k : Nat} (hE : ExE ex n k) (hn : 0 ≤ n) {cs : List Ch} (hv : Runes cs) (hp : Pos n cs) (hk : cs.length ≤ k) (g : Int) : TE n (atomF ex n cs g) := by
  obtain ⟨a0, a1⟩ := hp.at hn
  have hd := hv.suf (List.drop_suffix 1 cs)
  have hpd := hp.suf (List.drop_suffix 1 cs)
  unfold atomF
  split
  · rename_i h
    have hl := drop_lt (cs := cs) (by rw [eq_of_beq h]; decide)
    unfold groupF
    split
    · have hs := eatR_suf noncB (cs.drop 1)
      have := hs.length_le
      exact close_te hn (hE _ _ (hd.suf hs) (hpd.suf hs) (by omega))
    · split
      · exact .mk (.inr rfl) a0 a1
      · exact close_te hn (hE _ _ hd hpd (by omega))
  · split
    · exact .ok
    · split
      · exact .ok
      · split
        · exact .ok
        · split
          · exact escaped_te a0 a1 _ _
          · split
            · exact class_te a0 a1 _ _ hd
            · split
              · exact .ok
              · exact .mk (.inl rfl) a0 a1
theorem rep_te {n : Int} (hn : 0 ≤ n) {x : Nd} {cs : List Ch} (hp : Pos n cs) {g : Int} : TE n (repF n x cs g) := by
  obtain ⟨a0, a1⟩ := hp.at hn
  unfold repF lazyF
  split
  · exact .ok
  · split
    · exact .ok
    · split
      · exact .ok
      · split
        · split
          · rename_i e h; exact (braces_te a0 a1 _ _).map h
          · exact .ok
        · exact .ok

theorem atomF_suf {ex : List Ch → Int → PR Nd} {n : Int} (hex : ∀ cs g, Runes cs → GoodE cs (ex cs g)) {cs : List Ch} (hv : Runes cs) {g : Int} {x : Nd} {cs' : List Ch} {g' : Int} (h : atomF ex n cs g = .ok (x, cs', g')) : cs' <:+ cs := (atomF_good hex hv g _ _ _ h).1

theorem piece_te {ex : List Ch → Int → PR Nd} {n : Int} {k : Nat} (hE : ExE ex n k) (hex : ∀ cs g, Runes cs → GoodE cs (ex cs g)) (hn : 0 ≤ n) {cs : List Ch} (hv : Runes cs) (hp : Pos n cs) (hk : cs.length ≤ k) (g : Int) : TE n (pieceF ex n cs g) := by
  unfold pieceF
  split
  · rename_i e h; exact (atom_te hE hn hv hp hk g).map h
  · rename_i x cs1 g1 h1
    exact rep_te hn (hp.suf (atomF_suf hex hv h1))

theorem loop_te {ex : List Ch → Int → PR Nd} {n : Int} {k : Nat} (hE : ExE ex n k) (hex : ∀ cs g, Runes cs → GoodE cs (ex cs g)) (hn : 0 ≤ n) : ∀ (m : Nat) (all one : List Nd) (cs : List Ch) (g : Int), Runes cs → Pos n cs → cs.length ≤ k → cs.length < m → TE n (exprLoop (pieceF ex n) m all one cs g)
  | 0, _, _, _, _, _, _, _, h => absurd h (Nat.not_lt_zero _)
  | m + 1, all, one, cs, g, hv, hp, hk, hm => by
    simp only [exprLoop]
    split
    · split
      · rename_i he
        have hs := eatR_suf barB cs
        have hl := eatR_lt he
        have h1 : barB.size = 1 := rfl
        exact loop_te hE hex hn m _ _ _ _ (hv.suf hs) (hp.suf hs) (by omega) (by omega)
      · split
        · rename_i e h; exact (piece_te hE hex hn hv hp hk g).map h
        · rename_i x cs1 g1 h1
          obtain ⟨hs, hl⟩ := pieceF_good hex hv g _ _ _ h1
          have hxs : 0 < x.size := by cases x; simp [Nd.size]; omega
          exact loop_te hE hex hn m _ _ _ _ (hv.suf hs) (hp.suf hs) (by omega) (by omega)
    · exact .ok

theorem exprF_te (n : Int) (hn : 0 ≤ n) : ∀ k, ExE (exprF k n) n k
  | 0 => fun cs g _ _ h => absurd h (Nat.not_lt_zero _)
  | k + 1 => fun cs g hv hp hk => loop_te (exprF_te n hn k) (fun cs g hv => exprF_good k n cs g hv) hn _ _ _ _ _ hv hp (by omega) (by omega)

theorem charsF_pos (s : ByteArray) : ∀ k i, Pos s.size (charsF s k i)
  | 0, i => fun c hc => by cases hc
  | k + 1, i => by
    unfold charsF
    split
    · intro c hc
      rcases List.mem_cons.1 hc with rfl | hc
      · exact ⟨Int.natCast_nonneg _, by simp only; omega⟩
      · exact charsF_pos s k _ c hc
    · exact fun c hc => by cases hc

/-- What is wrong is told at a place in it. -/
theorem parse_err {s : ByteArray} {c a : Int} (h : parseF s = .error (c, a)) : (c = 2 ∨ c = 3) ∧ 0 ≤ a ∧ (a ≤ s.size ∨ (200 < s.size ∧ a = 200)) := by
  unfold parseF at h
  split at h
  · simp only [Except.error.injEq, Prod.mk.injEq] at h
    obtain ⟨rfl, rfl⟩ := h
    exact ⟨.inr rfl, by decide, .inr ⟨by omega, rfl⟩⟩
  · have hp : Pos s.size (charsOf s) := charsF_pos s _ _
    have hv := charsOf_runes s
    have ht := exprF_te s.size (by omega) ((charsOf s).length + 1) (charsOf s) 0 hv hp (by omega)
    split at h
    · rename_i e he
      simp only [Except.error.injEq] at h
      subst h
      obtain ⟨h1, h2, h3⟩ := ht _ _ he
      exact ⟨h1, h2, .inl h3⟩
    · rename_i x cs g he
      split at h
      · cases h
      · simp only [Except.error.injEq, Prod.mk.injEq] at h
        obtain ⟨rfl, rfl⟩ := h
        obtain ⟨b0, b1⟩ := (hp.suf (exprF_good _ _ _ _ hv _ _ _ he).1).at (n := s.size) (by omega)
        exact ⟨.inl rfl, b0, .inl b1⟩
end Go.Av

namespace Go.Av
open Go.RowKit Go.Lib

/-! ### texts of whole runes -/
def encL (r : Int) : List UInt8 := (Utf8.encode r).data.toList
def unitL (r : Int) : List UInt8 := if r = -1 then [255] else encL r

theorem u8 {n : Nat} (h : n < 256) : (UInt8.ofNat n).toNat = n := by simp [Nat.mod_eq_of_lt h]

theorem encL_cases {r : Int} (h : okR r = true) : ∃ c : Nat, (c : Int) = r ∧ (c < 55296 ∨ 57344 ≤ c ∧ c ≤ 1114111) ∧
    encL r = if c < 128 then [UInt8.ofNat c] else if c < 2048 then [UInt8.ofNat (192 + c / 64), UInt8.ofNat (128 + c % 64)]
      else if c < 65536 then [UInt8.ofNat (224 + c / 4096), UInt8.ofNat (128 + c / 64 % 64), UInt8.ofNat (128 + c % 64)]
      else [UInt8.ofNat (240 + c / 262144), UInt8.ofNat (128 + c / 4096 % 64), UInt8.ofNat (128 + c / 64 % 64), UInt8.ofNat (128 + c % 64)] := by
  rw [okR_iff] at h
  refine ⟨r.toNat, by omega, by omega, ?_⟩
  have hv : Utf8.valid r = true := by simp [Utf8.valid]; omega
  simp only [encL, Utf8.encode, hv, if_true]
  split
  · rfl
  · split
    · rfl
    · split <;> rfl

theorem decodeL_enc {r : Int} (h : okR r = true) (post : List UInt8) : decodeL (encL r ++ post) = (r.toNat, (encL r).length) := by
  obtain ⟨c, hc, hv, he⟩ := encL_cases h
  have hr : r.toNat = c := by omega
  rw [hr, decodeL_N, he]
  split
  · rename_i h1
    have e0 : (UInt8.ofNat c).toNat = c := u8 (by omega)
    simp only [List.cons_append, List.nil_append, List.getD_cons_zero, List.length_cons, List.length_nil, e0, decodeN, if_pos h1]
  · split
    · rename_i h1 h2
      have e0 : (UInt8.ofNat (192 + c / 64)).toNat = 192 + c / 64 := u8 (by omega)
      have e1 : (UInt8.ofNat (128 + c % 64)).toNat = 128 + c % 64 := u8 (by omega)
      simp only [List.cons_append, List.nil_append, List.getD_cons_zero, List.getD_cons_succ, List.length_cons, List.length_nil, e0, e1, decodeN]
      rw [if_neg (by omega), if_pos (by omega), if_pos (by omega)]
      simp only [Prod.mk.injEq, and_true]; omega
    · split
      · rename_i h1 h2 h3
        have e0 : (UInt8.ofNat (224 + c / 4096)).toNat = 224 + c / 4096 := u8 (by omega)
        have e1 : (UInt8.ofNat (128 + c / 64 % 64)).toNat = 128 + c / 64 % 64 := u8 (by omega)
        have e2 : (UInt8.ofNat (128 + c % 64)).toNat = 128 + c % 64 := u8 (by omega)
        simp only [List.cons_append, List.nil_append, List.getD_cons_zero, List.getD_cons_succ, List.length_cons, List.length_nil, e0, e1, e2, decodeN]
        have k : (224 + c / 4096) % 16 * 4096 + (128 + c / 64 % 64) % 64 * 64 + (128 + c % 64) % 64 = c := by omega
        rw [k, if_neg (by omega), if_neg (by omega), if_pos (by omega), if_pos (by omega)]
      · rename_i h1 h2 h3
        have e0 : (UInt8.ofNat (240 + c / 262144)).toNat = 240 + c / 262144 := u8 (by omega)
        have e1 : (UInt8.ofNat (128 + c / 4096 % 64)).toNat = 128 + c / 4096 % 64 := u8 (by omega)
        have e2 : (UInt8.ofNat (128 + c / 64 % 64)).toNat = 128 + c / 64 % 64 := u8 (by omega)
        have e3 : (UInt8.ofNat (128 + c % 64)).toNat = 128 + c % 64 := u8 (by omega)
        simp only [List.cons_append, List.nil_append, List.getD_cons_zero, List.getD_cons_succ, List.length_cons, List.length_nil, e0, e1, e2, e3, decodeN]
        have k : (240 + c / 262144) % 8 * 262144 + (128 + c / 4096 % 64) % 64 * 4096 + (128 + c / 64 % 64) % 64 * 64 + (128 + c % 64) % 64 = c := by omega
        rw [k, if_neg (by omega), if_neg (by omega), if_neg (by omega), if_pos (by omega), if_pos (by omega)]

theorem decodeL_bad (post : List UInt8) : decodeL (255 :: post) = (65533, 1) := by
  rw [decodeL_N]
  simp [decodeN]

theorem encL_ne {r : Int} (h : okR r = true) : encL r ≠ [] := by
  obtain ⟨c, _, _, he⟩ := encL_cases h
  rw [he]
  repeat' split
  all_goals simp

def unitOk (r : Int) : Prop := r = -1 ∨ okR r = true

theorem extract_list (s : ByteArray) (i j : Nat) (h : j ≤ s.size) : (s.extract i j).data.toList = (s.data.toList.drop i).take (j - i) := by
  simp [ByteArray.data_extract]

theorem bytes_list (s : ByteArray) : s.toList = s.data.toList := ByteArray.toList_eq s
theorem hasPre_list (s p : ByteArray) : hasPre s p = true ↔ p.size ≤ s.size ∧ s.data.toList.take p.size = p.data.toList := by
  simp only [hasPre, Bool.and_eq_true, decide_eq_true_eq, beq_iff_eq, bytes_list]
  constructor
  · rintro ⟨h1, h2⟩
    have h1 : p.size ≤ s.size := by omega
    rw [extract_list _ _ _ h1] at h2
    exact ⟨h1, by simpa using h2⟩
  · rintro ⟨h1, h2⟩
    refine ⟨by omega, ?_⟩
    rw [extract_list _ _ _ h1]; simpa using h2

theorem chR_unit {s : ByteArray} {i : Nat} {r : Int} {post : List UInt8} (hr : unitOk r) (h : s.data.toList.drop i = unitL r ++ post) : chR s i = r ∧ (Utf8.decode s i).2 = (unitL r).length ∧ i < s.size := by
  have hl : (s.data.toList.drop i).length = s.size - i := by simp
  have hi : i < s.size := by
    rw [h] at hl
    have : 0 < (unitL r).length := by
      unfold unitL
      split
      · simp
      · rcases hr with hr | hr
        · contradiction
        · exact List.length_pos_iff.2 (encL_ne hr)
    simp only [List.length_append] at hl
    omega
  have hd : Utf8.decode s i = decodeL (unitL r ++ post) := by rw [← decodeL_drop, h]
  have hx : (s.extract i s.size).data.toList = unitL r ++ post := by
    rw [extract_list _ _ _ (Nat.le_refl _), h]
    rw [h] at hl
    rw [List.take_of_length_le (by omega)]
  have hp3 : (Utf8.encode 65533).size = 3 := by decide
  have hpl : (Utf8.encode 65533).data.toList = [239, 191, 189] := by decide
  rcases hr with rfl | hr
  · have e : unitL (-1) = [255] := rfl
    rw [e] at hd hx ⊢
    rw [List.cons_append, List.nil_append, decodeL_bad] at hd
    refine ⟨?_, by rw [hd]; rfl, hi⟩
    have hh : hasPre (s.extract i s.size) (Utf8.encode 65533) = false := by
      rw [Bool.eq_false_iff, ne_eq, hasPre_list, hx, hp3, hpl]
      rintro ⟨_, h2⟩
      simp at h2
    unfold chR
    rw [hd, hh]; rfl
  · have hne : r ≠ -1 := by rw [okR_iff] at hr; omega
    have e : unitL r = encL r := by simp [unitL, hne]
    have h0 : 0 ≤ r := by rw [okR_iff] at hr; omega
    rw [e] at hd hx ⊢
    rw [decodeL_enc hr] at hd
    refine ⟨?_, by rw [hd], hi⟩
    have hrn : ((r.toNat : Nat) : Int) = r := Int.toNat_of_nonneg h0
    unfold chR
    rw [hd]
    simp only [hrn]
    by_cases h3 : r = 65533
    · subst h3
      have hh : hasPre (s.extract i s.size) (Utf8.encode 65533) = true := by
        rw [hasPre_list, hx]
        have hsz : (s.extract i s.size).size = (encL 65533 ++ post).length := by rw [← hx]; simp
        refine ⟨?_, ?_⟩
        · rw [hsz, List.length_append]; exact Nat.le_add_right _ _
        · rw [List.take_left']
          · rfl
          · rfl
      rw [hh]; rfl
    · have : (r == 65533) = false := by simp [h3]
      rw [this]; rfl

theorem chars_units (s : ByteArray) : ∀ (l : List Int) (k i : Nat), (∀ r ∈ l, unitOk r) → s.data.toList.drop i = l.flatMap unitL → s.size - i < k → (charsF s k i).map Ch.r = l
  | [], k, i, _, h, hk => by
    obtain ⟨k, rfl⟩ : ∃ m, k = m + 1 := ⟨k - 1, by omega⟩
    have : (s.data.toList.drop i).length = 0 := by rw [h]; rfl
    have : ¬ i < s.size := by
      have e : (s.data.toList.drop i).length = s.size - i := by simp
      omega
    simp [charsF, this]
  | r :: l, k, i, hu, h, hk => by
    obtain ⟨k, rfl⟩ : ∃ m, k = m + 1 := ⟨k - 1, by omega⟩
    rw [List.flatMap_cons] at h
    obtain ⟨h1, h2, h3⟩ := chR_unit (hu r (by simp)) h
    obtain ⟨w1, w2⟩ := decode_width s h3
    have hd : s.data.toList.drop (i + (Utf8.decode s i).2) = l.flatMap unitL := by
      rw [← List.drop_drop, h, h2]; simp
    have := chars_units s l k (i + (Utf8.decode s i).2) (fun q hq => hu q (by simp [hq])) hd (by omega)
    simp only [charsF, h3, if_true, List.map_cons, h1, this]

/-- A text of whole units. -/
structure Txt (s : ByteArray) (l : List Int) : Prop where
  ok : ∀ r ∈ l, unitOk r
  eq : s.data.toList = l.flatMap unitL
theorem Txt.chars {s : ByteArray} {l : List Int} (h : Txt s l) : rsOf (charsOf s) = l :=
  chars_units s l (s.size + 1) 0 h.ok (by simpa using h.eq) (by omega)
theorem Txt.append {s t : ByteArray} {l m : List Int} (h : Txt s l) (h' : Txt t m) : Txt (s ++ t) (l ++ m) :=
  ⟨fun r hr => (List.mem_append.1 hr).elim (h.ok r) (h'.ok r), by
    rw [List.flatMap_append, ← h.eq, ← h'.eq]; simp⟩
theorem Txt.nil : Txt ⟨#[]⟩ [] := ⟨by simp, rfl⟩
theorem Txt.rune {r : Int} (h : okR r = true) : Txt (Utf8.encode r) [r] :=
  ⟨by intro q hq; simp at hq; subst hq; exact .inr h, by
    have hne : r ≠ -1 := by rw [okR_iff] at h; omega
    simp [unitL, hne, encL]⟩
theorem Txt.nice_char {s : ByteArray} {l : List Int} (h : Txt s l) (hn : ∀ r ∈ l, niceR r) : Nice (charsOf s) := fun c hc => by
  apply hn
  rw [← h.chars]
  exact List.mem_map_of_mem hc
end Go.Av

namespace Go.Av
open Go.RowKit Go.Lib

theorem Txt.ascii1 (b : UInt8) (h : b.toNat < 128) : Txt ⟨#[b]⟩ [(b.toNat : Int)] :=
  ⟨by intro q hq; simp at hq; subst hq; right; rw [okR_iff]; omega, by
    have hne : ((b.toNat : Nat) : Int) ≠ -1 := by omega
    have hok : okR (b.toNat : Int) = true := by rw [okR_iff]; omega
    obtain ⟨c, hc, _, he⟩ := encL_cases hok
    have : c = b.toNat := by omega
    subst this
    simp [unitL, hne, he, h]⟩
theorem Txt.bytes : ∀ (l : List UInt8), (∀ b ∈ l, b.toNat < 128) → Txt ⟨l.toArray⟩ (l.map fun b => (b.toNat : Int))
  | [], _ => .nil
  | b :: l, h => by
    have h1 := (Txt.ascii1 b (h b (by simp))).append (Txt.bytes l fun c hc => h c (by simp [hc]))
    have e : (⟨#[b]⟩ : ByteArray) ++ ⟨l.toArray⟩ = ⟨(b :: l).toArray⟩ := by
      apply ByteArray.ext
      apply Array.ext'
      simp
    rw [e] at h1
    simpa using h1

theorem joinB_one (x sep : ByteArray) : joinB [x] sep = x := by
  simp [joinB, Lib.join_one]
theorem joinB_cons (x y : ByteArray) (r : List ByteArray) (sep : ByteArray) : joinB (x :: y :: r) sep = x ++ sep ++ joinB (y :: r) sep := by
  apply ByteArray.ext
  apply Array.ext'
  simp [joinB, Lib.join_cons, Lib.joinTail]
theorem ok_put {x : Nd} (h : Ok x) : PutOk x := by
  have all : ∀ ks : List Nd, (∀ y ∈ ks, PutOk y) → PutOks ks := by
    intro ks
    induction ks with
    | nil => intro _; trivial
    | cons a r ih => intro h; exact ⟨h a (by simp), ih fun y hy => h y (by simp [hy])⟩
  induction h with
  | empty => simp [emptyN, PutOk, PutOks]
  | one c h => have := h.len; simp [oneN, PutOk, PutOks]; omega
  | plain k h => simp [plainN, PutOk, PutOks]
  | cat ks hl h hk ih => simp only [PutOk]; exact ⟨by simp, by decide, by decide, by decide, by decide, all ks ih⟩
  | alt ks hl h hk ih => simp only [PutOk]; exact ⟨by simp, by decide, by decide, by decide, by decide, all ks ih⟩
  | rep a b z x h0 h1 hb h ih => simp only [repN, PutOk]; exact ⟨by simp, h0, by omega, by omega, by omega, ih, trivial⟩
  | group m x h ih => simp only [groupN, PutOk]; exact ⟨by simp, by decide, by decide, by decide, by decide, ih, trivial⟩

/-- What a parsed pattern is. -/
theorem parse_ok {s : ByteArray} (hv : Nice (charsOf s)) {x : Nd} (h : parseF s = .ok x) : Ok x ∧ (∃ g', num x 0 = some g' ∧ 0 ≤ g' ∧ g' ≤ 8) ∧ x.size ≤ 1000 ∧ s.size ≤ 200 := by
  unfold parseF at h
  split at h
  · cases h
  · rename_i h200
    split at h
    · cases h
    · rename_i y cs g he
      split at h
      · simp only [Except.ok.injEq] at h
        subst h
        obtain ⟨h1, h2⟩ := exprF_tn _ _ _ _ hv (Int.le_refl _) _ _ _ he
        have h3 := exprF_g _ _ _ _ _ _ _ he
        have h4 := (exprF_good _ _ _ _ hv.runes _ _ _ he).2
        have h5 := charsF_length s (s.size + 1) 0
        rw [show charsF s (s.size + 1) 0 = charsOf s from rfl] at h5
        exact ⟨h1, ⟨g, h2, h3.1, h3.2 (by decide)⟩, by omega, by omega⟩
      · cases h
end Go.Av

