/-
  The abstract values and heaps, and each operation of the program read over them; no condition.
-/
import Derived.Calls
import Derived.Below
import Derived.Laws.AppendOwn
import Derived.Laws.Cells
import Derived.Laws.World
import Derived.Laws.Sem
import Derived.Laws.BytesArg
import Derived.Laws.StructEq
import Derived.Laws.Append
import Derived.Laws.Entries
import Derived.Laws.Rows
import Derived.Laws.Build
import Derived.Laws.CopyRow
import Derived.Lib.AppendZeros
set_option linter.unusedVariables false
set_option linter.unusedSimpArgs false
namespace Go.Av
open Go.RowKit

/-- An immutable value of one cell. -/
inductive IV where
  | sc (x : Value)
  | sl (sz : Nat) (rows : List (List IV))
  deriving Inhabited

/-- A value of one cell. -/
inductive AV where
  | iv (x : IV)
  | own (b ver off len : Nat)
  | ptr (b ver i j : Nat)
  | ip (cells : List IV) (j : Nat)
  | it (b : Nat)
  | mp (b : Nat)
  | fn (f : Fn) (caps : List AV)
  | junk
  deriving Inhabited

/-- What a slot holds. -/
inductive LV where
  | one (x : AV)
  | agg (cs : List AV)
  | tup (xs : List LV)
  deriving Inhabited

/-- A block of the abstract heap. -/
inductive Blk where
  | cells (sz ver : Nat) (rows : List (List AV)) (fz : Bool)
  | iter (s : ByteArray) (pos : Nat)
  | map (es : List (Value × Value))

abbrev Bs := List (Nat × Blk)

def Bs.get : Bs → Nat → Option Blk
  | [], _ => none
  | (b, x) :: r, n => if b = n then some x else Bs.get r n

/-- Where a block lies. -/
structure Loc where
  g : Nat
  o : Nat
  cap : Nat
  isNil : Bool

/-- Where the blocks lie; and the real blocks that somebody else may write. -/
structure Rho where
  loc : Nat → Loc
  X : Nat → Prop

instance : CoeFun Rho (fun _ => Nat → Loc) := ⟨Rho.loc⟩

def Rho.set (ρ : Rho) (b : Nat) (l : Loc) : Rho := ⟨fun i => if i = b then l else ρ i, ρ.X⟩

@[simp] theorem Rho.set_same (ρ : Rho) (b : Nat) (l : Loc) : (ρ.set b l) b = l := by simp [Rho.set]
theorem Rho.set_other (ρ : Rho) {b i : Nat} (l : Loc) (h : ¬ i = b) : (ρ.set b l) i = ρ i := by simp [Rho.set, h]
theorem Rho.set_self (ρ : Rho) (b : Nat) : ρ.set b (ρ b) = ρ := by
  unfold Rho.set
  cases ρ with
  | mk loc X =>
    simp only [Rho.mk.injEq, and_true]
    funext i
    split
    · rename_i h; rw [h]
    · rfl

/-- The real blocks of one's own that may be written. -/
def Own (H : Bs) (ρ : Rho) (g : Nat) : Prop :=
  ∃ b x, H.get b = some x ∧ (ρ b).g = g ∧ (ρ b).isNil = false ∧ (∀ sz ver rows, x ≠ .cells sz ver rows true)

/-- The real blocks that may be written. -/
def Mut (H : Bs) (ρ : Rho) (g : Nat) : Prop := ρ.X g ∨ Own H ρ g

inductive IRep (M : Nat → Prop) (w : World) : IV → Value → Prop
  | sc (x : Value) (h : x.oneCell' = true) : IRep M w (.sc x) x
  | sl (sz : Nat) (rows : List (List IV)) (A : Option Addr) (cap g o : Nat) (cv : Nat → Nat → Value)
      (hsz : ∀ (j : Nat) (row : List IV), rows[j]? = some row → row.length = sz)
      (hlen : rows.length ≤ 140737488355328) (hcap : rows.length ≤ cap)
      (hA : 0 < rows.length → A = some ⟨g, o, none⟩ ∧ ¬ M g ∧ g < w.heap.size)
      (hc : ∀ (j : Nat) (row : List IV) (i : Nat) (x : IV), rows[j]? = some row → row[i]? = some x → w.cell? ⟨g, o + j * sz + i, none⟩ = some (cv j i))
      (hr : ∀ (j : Nat) (row : List IV) (i : Nat) (x : IV), rows[j]? = some row → row[i]? = some x → IRep M w x (cv j i)) :
      IRep M w (.sl sz rows) (.slice A rows.length cap)

/-- The world w' keeps what w holds outside the blocks of M. -/
def KeepsOut (M : Nat → Prop) (w w' : World) : Prop := ∀ g, g < w.heap.size → ¬ M g → w'.heap[g]? = w.heap[g]?

theorem cell_lt {w : World} {a : Addr} {v : Value} (h : w.cell? a = some v) : a.block < w.heap.size := World.block_lt_of_cell? w a h

theorem KeepsOut.cell {M : Nat → Prop} {w w' : World} (h : KeepsOut M w w') {g o : Nat} {v : Value} (hm : ¬ M g) (hc : w.cell? ⟨g, o, none⟩ = some v) : w'.cell? ⟨g, o, none⟩ = some v := by
  have hlt : g < w.heap.size := cell_lt hc
  exact (World.cell?_of_block (w := w) (a := ⟨g, o, none⟩) (h g hlt hm)).trans hc

/-- Immutable values live on: what may be written later is no more than what could be, or new. -/
theorem IRep.keep {M M' : Nat → Prop} {w w' : World} (h : KeepsOut M w w') (hs : w.heap.size ≤ w'.heap.size) (hm : ∀ g, g < w.heap.size → M' g → M g) {x : IV} {v : Value} (hx : IRep M w x v) : IRep M' w' x v := by
  induction hx with
  | sc x hx => exact .sc x hx
  | sl sz rows A cap g o cv hsz hlen hcap hA hc hr ih =>
    refine .sl sz rows A cap g o cv hsz hlen hcap (fun hp => ?_) (fun j row i x h1 h2 => ?_) ih
    · obtain ⟨e, hn, hlt⟩ := hA hp
      exact ⟨e, fun hg => hn (hm g hlt hg), by omega⟩
    · have hp : 0 < rows.length := by
        have := (List.getElem?_eq_some_iff.1 h1).1; omega
      exact h.cell (hA hp).2.1 (hc j row i x h1 h2)

theorem IRep.one {M : Nat → Prop} {w : World} {x : IV} {v : Value} (hx : IRep M w x v) : v.oneCell' = true := by
  cases hx with
  | sc x hx => exact hx
  | sl => rfl

/-- The abstract heap. -/
structure Hp where
  bs : Bs
  nxt : Nat

/-- A value of one cell, read in a world. -/
inductive ARep (H : Hp) (ρ : Rho) (w : World) : AV → Value → Prop
  | iv (x : IV) (v : Value) (h : IRep (Mut H.bs ρ) w x v) : ARep H ρ w (.iv x) v
  | own (b ver off len : Nat) (v : Value) (hb : b < H.nxt) (h1 : v.oneCell' = true)
      (h : ∀ sz v' rows fz, H.bs.get b = some (.cells sz v' rows fz) → ver ≤ v' ∧ (ver = v' → off + len ≤ rows.length ∧ ∃ A c, v = .slice A len c ∧ len ≤ c ∧ (0 < c → off + c = (ρ b).cap ∧ A = some ⟨(ρ b).g, (ρ b).o + off * sz, none⟩))) :
      ARep H ρ w (.own b ver off len) v
  | ptr (b ver i j : Nat) (v : Value) (hb : b < H.nxt) (h1 : v.oneCell' = true)
      (h : ∀ sz v' rows fz, H.bs.get b = some (.cells sz v' rows fz) → ver ≤ v' ∧ (ver = v' → v = .pointer (some ⟨(ρ b).g, (ρ b).o + i * sz + j, none⟩))) :
      ARep H ρ w (.ptr b ver i j) v
  | ip (cells : List IV) (j g o : Nat) (cv : Nat → Value) (hm : ¬ Mut H.bs ρ g) (hlt : g < w.heap.size)
      (hc : ∀ (i : Nat) (x : IV), cells[i]? = some x → w.cell? ⟨g, o + i, none⟩ = some (cv i))
      (hr : ∀ (i : Nat) (x : IV), cells[i]? = some x → IRep (Mut H.bs ρ) w x (cv i)) :
      ARep H ρ w (.ip cells j) (.pointer (some ⟨g, o + j, none⟩))
  | it (b : Nat) (v : Value) (hb : b < H.nxt) (h1 : v.oneCell' = true)
      (h : ∀ s pos, H.bs.get b = some (.iter s pos) → v = .pointer (some ⟨(ρ b).g, 0, none⟩)) : ARep H ρ w (.it b) v
  | mp (b : Nat) (v : Value) (hb : b < H.nxt) (h1 : v.oneCell' = true)
      (h : ∀ es, H.bs.get b = some (.map es) → v = .map (some (ρ b).g)) : ARep H ρ w (.mp b) v
  | fn (f : Fn) (caps : List AV) (cv : Nat → Value) (vs : Array Value) (hs : vs.size = caps.length)
      (hv : ∀ (i : Nat) (x : AV), caps[i]? = some x → vs[i]? = some (cv i))
      (hr : ∀ (i : Nat) (x : AV), caps[i]? = some x → ARep H ρ w x (cv i)) : ARep H ρ w (.fn f caps) (.func f #[] vs)
  | junk (v : Value) (h1 : v.oneCell' = true) : ARep H ρ w .junk v

theorem ARep.one {H : Hp} {ρ : Rho} {w : World} {x : AV} {v : Value} (hx : ARep H ρ w x v) : v.oneCell' = true := by
  cases hx with
  | iv x v h => exact h.one
  | own _ _ _ _ _ _ h1 => exact h1
  | ptr _ _ _ _ _ _ h1 => exact h1
  | ip => rfl
  | it _ _ _ h1 => exact h1
  | mp _ _ _ h1 => exact h1
  | fn => rfl
  | junk _ h1 => exact h1

/-- What a block is in the world. -/
def BRep (H : Hp) (ρ : Rho) (w : World) (l : Loc) : Blk → Prop
  | .cells sz _ rows _ => (∀ (i : Nat) (row : List AV), rows[i]? = some row → row.length = sz) ∧ 0 < sz ∧ rows.length ≤ l.cap ∧ rows.length ≤ 140737488355328 ∧
      (l.isNil = true → l.cap = 0) ∧
      (l.isNil = false → ∃ cs e, w.heap[l.g]? = some (.cells cs e (0, 0)) ∧ l.o + l.cap * sz ≤ cs.size ∧
        ∀ (i : Nat) (row : List AV) (j : Nat) (x : AV), rows[i]? = some row → row[j]? = some x → ∃ u, cs[l.o + i * sz + j]? = some u ∧ ARep H ρ w x u)
  | .iter s pos => l.isNil = false ∧ w.heap[l.g]? = some (.stringIter s pos)
  | .map es => l.isNil = false ∧ ∃ ms clock, w.heap[l.g]? = some (.map ms clock) ∧ ms.toList.map (fun e => (e.key, e.val)) = es

structure HRep (H : Hp) (ρ : Rho) (w : World) : Prop where
  xlt : ∀ g, ρ.X g → g < w.heap.size
  xno : ∀ b x, H.bs.get b = some x → (ρ b).isNil = false → ¬ ρ.X (ρ b).g
  blk : ∀ b x, H.bs.get b = some x → BRep H ρ w (ρ b) x
  lt : ∀ b x, H.bs.get b = some x → b < H.nxt
  glt : ∀ b x, H.bs.get b = some x → (ρ b).isNil = false → (ρ b).g < w.heap.size
  apart : ∀ b b' x x', H.bs.get b = some x → H.bs.get b' = some x' → (ρ b).isNil = false → (ρ b').isNil = false → (ρ b).g = (ρ b').g → b = b'


/-- What a slot's value is. -/
inductive LRep (H : Hp) (ρ : Rho) (w : World) : LV → Value → Prop
  | one (x : AV) (v : Value) (h : ARep H ρ w x v) : LRep H ρ w (.one x) v
  | agg (cs : List AV) (vs : Array Value) (cv : Nat → Value) (hs : vs.size = cs.length)
      (hv : ∀ (i : Nat) (x : AV), cs[i]? = some x → vs[i]? = some (cv i))
      (hr : ∀ (i : Nat) (x : AV), cs[i]? = some x → ARep H ρ w x (cv i)) : LRep H ρ w (.agg cs) (.agg vs)
  | tup (xs : List LV) (vs : Array Value) (cv : Nat → Value) (hs : vs.size = xs.length)
      (hv : ∀ (i : Nat) (x : LV), xs[i]? = some x → vs[i]? = some (cv i))
      (hr : ∀ (i : Nat) (x : LV), xs[i]? = some x → LRep H ρ w x (cv i)) : LRep H ρ w (.tup xs) (.tuple vs)

/-- What stays from one heap to another one. -/
structure Ext (H : Hp) (ρ : Rho) (w : World) (H' : Hp) (ρ' : Rho) (w' : World) : Prop where
  nxt : H.nxt ≤ H'.nxt
  cells : ∀ b sz ver rows' fz', b < H.nxt → H'.bs.get b = some (.cells sz ver rows' fz') → ∃ sz0 ver0 rows fz, H.bs.get b = some (.cells sz0 ver0 rows fz) ∧ ver0 ≤ ver ∧ (ver0 = ver → sz0 = sz ∧ rows.length ≤ rows'.length ∧ ρ' b = ρ b)
  iter : ∀ b s pos', b < H.nxt → H'.bs.get b = some (.iter s pos') → ∃ pos, H.bs.get b = some (.iter s pos) ∧ ρ' b = ρ b
  map : ∀ b es', b < H.nxt → H'.bs.get b = some (.map es') → ∃ es, H.bs.get b = some (.map es) ∧ ρ' b = ρ b
  keeps : KeepsOut (Own H.bs ρ) w w'
  size : w.heap.size ≤ w'.heap.size
  muts : ∀ g, g < w.heap.size → Own H'.bs ρ' g → Own H.bs ρ g
  X : ∀ g, ρ.X g → ρ'.X g
  Xo : ∀ g, g < w.heap.size → ρ'.X g → Mut H.bs ρ g
  place : ∀ b x, H'.bs.get b = some x → (ρ' b).isNil = false → (ρ' b).g < w.heap.size → ∃ c y, H.bs.get c = some y ∧ (ρ c).isNil = false ∧ (ρ c).g = (ρ' b).g
  os : w'.os = w.os
  tape : w'.tape = w.tape
  output : w'.output = w.output

theorem Ext.keepsM {H : Hp} {ρ : Rho} {w : World} {H' : Hp} {ρ' : Rho} {w' : World} (e : Ext H ρ w H' ρ' w') : KeepsOut (Mut H.bs ρ) w w' := fun g hg hm => e.keeps g hg fun h => hm (.inr h)
theorem Ext.mutsM {H : Hp} {ρ : Rho} {w : World} {H' : Hp} {ρ' : Rho} {w' : World} (e : Ext H ρ w H' ρ' w') (g : Nat) (hg : g < w.heap.size) (h : Mut H'.bs ρ' g) : Mut H.bs ρ g := by
  rcases h with h | h
  · exact e.Xo g hg h
  · exact .inr (e.muts g hg h)

theorem ARep.keep {H H' : Hp} {ρ ρ' : Rho} {w w' : World} (e : Ext H ρ w H' ρ' w') {x : AV} {v : Value} (hx : ARep H ρ w x v) : ARep H' ρ' w' x v := by
  induction hx with
  | iv x v h => exact .iv x v (h.keep e.keepsM e.size e.mutsM)
  | own b ver off len v hb h1 h =>
    refine .own b ver off len v (Nat.lt_of_lt_of_le hb e.nxt) h1 fun sz v' rows' fz' hg => ?_
    obtain ⟨sz0, v0, rows, fz, hg0, hle, hl⟩ := e.cells b sz v' rows' fz' hb hg
    obtain ⟨h2, h3⟩ := h sz0 v0 rows fz hg0
    refine ⟨by omega, fun hv => ?_⟩
    obtain ⟨rfl, hlen, hρ⟩ := hl (by omega)
    obtain ⟨h4, A, c, h5⟩ := h3 (by omega)
    rw [hρ]
    exact ⟨by omega, A, c, h5⟩
  | ptr b ver i j v hb h1 h =>
    refine .ptr b ver i j v (Nat.lt_of_lt_of_le hb e.nxt) h1 fun sz v' rows' fz' hg => ?_
    obtain ⟨sz0, v0, rows, fz, hg0, hle, hl⟩ := e.cells b sz v' rows' fz' hb hg
    obtain ⟨h2, h3⟩ := h sz0 v0 rows fz hg0
    refine ⟨by omega, fun hv => ?_⟩
    obtain ⟨rfl, hlen, hρ⟩ := hl (by omega)
    rw [hρ]
    exact h3 (by omega)
  | ip cells j g o cv hm hlt hc hr =>
    exact .ip cells j g o cv (fun h => hm (e.mutsM g hlt h)) (Nat.lt_of_lt_of_le hlt e.size) (fun i x h => e.keepsM.cell hm (hc i x h)) (fun i x h => (hr i x h).keep e.keepsM e.size e.mutsM)
  | it b v hb h1 h =>
    refine .it b v (Nat.lt_of_lt_of_le hb e.nxt) h1 fun s pos' hg => ?_
    obtain ⟨pos, hg0, hρ⟩ := e.iter b s pos' hb hg
    rw [hρ]
    exact h s pos hg0
  | mp b v hb h1 h =>
    refine .mp b v (Nat.lt_of_lt_of_le hb e.nxt) h1 fun es' hg => ?_
    obtain ⟨es, hg0, hρ⟩ := e.map b es' hb hg
    rw [hρ]
    exact h es hg0
  | fn f caps cv vs hs hv hr ih => exact .fn f caps cv vs hs hv ih
  | junk v h1 => exact .junk v h1

theorem LRep.keep {H H' : Hp} {ρ ρ' : Rho} {w w' : World} (e : Ext H ρ w H' ρ' w') {x : LV} {v : Value} (hx : LRep H ρ w x v) : LRep H' ρ' w' x v := by
  induction hx with
  | one x v h => exact .one x v (h.keep e)
  | agg cs vs cv hs hv hr => exact .agg cs vs cv hs hv fun i x h => (hr i x h).keep e
  | tup xs vs cv hs hv hr ih => exact .tup xs vs cv hs hv ih

theorem Ext.refl (H : Hp) (ρ : Rho) (w : World) : Ext H ρ w H ρ w :=
  ⟨Nat.le_refl _, fun b sz ver rows fz _ h => ⟨sz, ver, rows, fz, h, Nat.le_refl _, fun _ => ⟨rfl, Nat.le_refl _, rfl⟩⟩, fun b s pos _ h => ⟨pos, h, rfl⟩, fun b es _ h => ⟨es, h, rfl⟩, fun g _ _ => rfl, Nat.le_refl _, fun g _ h => h, fun g h => h, fun g _ h => .inl h, fun b x h1 h2 _ => ⟨b, x, h1, h2, rfl⟩, rfl, rfl, rfl⟩

theorem Ext.trans {H₁ H₂ H₃ : Hp} {ρ₁ ρ₂ ρ₃ : Rho} {w₁ w₂ w₃ : World} (a : Ext H₁ ρ₁ w₁ H₂ ρ₂ w₂) (b : Ext H₂ ρ₂ w₂ H₃ ρ₃ w₃) : Ext H₁ ρ₁ w₁ H₃ ρ₃ w₃ where
  nxt := Nat.le_trans a.nxt b.nxt
  cells := fun i sz ver rows' fz' hi h => by
    obtain ⟨s2, v2, r2, f2, h2, l2, e2⟩ := b.cells i sz ver rows' fz' (Nat.lt_of_lt_of_le hi a.nxt) h
    obtain ⟨s1, v1, r1, f1, h1, l1, e1⟩ := a.cells i s2 v2 r2 f2 hi h2
    refine ⟨s1, v1, r1, f1, h1, by omega, fun hv => ?_⟩
    obtain ⟨q1, q2, q3⟩ := e2 (by omega)
    obtain ⟨p1, p2, p3⟩ := e1 (by omega)
    exact ⟨p1.trans q1, by omega, q3.trans p3⟩
  iter := fun i s p hi h => by
    obtain ⟨r2, h2, e2⟩ := b.iter i s p (Nat.lt_of_lt_of_le hi a.nxt) h
    obtain ⟨r1, h1, e1⟩ := a.iter i s r2 hi h2
    exact ⟨r1, h1, e2.trans e1⟩
  map := fun i s hi h => by
    obtain ⟨r2, h2, e2⟩ := b.map i s (Nat.lt_of_lt_of_le hi a.nxt) h
    obtain ⟨r1, h1, e1⟩ := a.map i r2 hi h2
    exact ⟨r1, h1, e2.trans e1⟩
  keeps := fun g hg hm => (b.keeps g (Nat.lt_of_lt_of_le hg a.size) (fun h => hm (a.muts g hg h))).trans (a.keeps g hg hm)
  size := Nat.le_trans a.size b.size
  muts := fun g hg h => a.muts g hg (b.muts g (Nat.lt_of_lt_of_le hg a.size) h)
  X := fun g h => b.X g (a.X g h)
  Xo := fun g hg h => a.mutsM g hg (b.Xo g (Nat.lt_of_lt_of_le hg a.size) h)
  place := fun i x h1 h2 h3 => by
    obtain ⟨c, y, k1, k2, k3⟩ := b.place i x h1 h2 (Nat.lt_of_lt_of_le h3 a.size)
    obtain ⟨d, z, l1, l2, l3⟩ := a.place c y k1 k2 (by omega)
    exact ⟨d, z, l1, l2, by omega⟩
  os := b.os.trans a.os
  tape := b.tape.trans a.tape
  output := b.output.trans a.output


theorem Bs.get_cons (b : Nat) (x : Blk) (r : Bs) (n : Nat) : Bs.get ((b, x) :: r) n = if b = n then some x else Bs.get r n := rfl

/-- May a block be written? -/
def Blk.open_ : Blk → Bool
  | .cells _ _ _ fz => !fz
  | _ => true

theorem Blk.open_iff (x : Blk) : x.open_ = true ↔ ∀ sz ver rows, x ≠ .cells sz ver rows true := by
  cases x with
  | cells sz ver rows fz => cases fz <;> simp [Blk.open_]
  | iter s p => simp [Blk.open_]
  | map es => simp [Blk.open_]

theorem Own.mk {H : Bs} {ρ : Rho} {b : Nat} {x : Blk} (h : H.get b = some x) (hn : (ρ b).isNil = false) (ho : x.open_ = true) : Own H ρ (ρ b).g :=
  ⟨b, x, h, rfl, hn, (Blk.open_iff x).1 ho⟩

/-- One block is new, or turns; all others stay. -/
theorem turn {H : Hp} {ρ : Rho} {w w' : World} (hH : HRep H ρ w) (b : Nat) (x' : Blk) (l' : Loc)
    (hs : w.heap.size ≤ w'.heap.size) (hos : w'.os = w.os) (htape : w'.tape = w.tape) (hout : w'.output = w.output)
    (hkeep : ∀ g, g < w.heap.size → (∀ x, H.bs.get b = some x → (ρ b).isNil = false → x.open_ = true → (ρ b).g = g → False) → w'.heap[g]? = w.heap[g]?)
    (hl : l'.isNil = false → l'.g < w'.heap.size ∧ (w.heap.size ≤ l'.g ∨ ∃ x, H.bs.get b = some x ∧ (ρ b).isNil = false ∧ x.open_ = true ∧ (ρ b).g = l'.g))
    (hc : b < H.nxt → ∀ sz ver rows' fz', x' = .cells sz ver rows' fz' → ∃ sz0 ver0 rows fz, H.bs.get b = some (.cells sz0 ver0 rows fz) ∧ ver0 ≤ ver ∧ (ver0 = ver → sz0 = sz ∧ rows.length ≤ rows'.length ∧ l' = ρ b))
    (hi : b < H.nxt → ∀ s pos', x' = .iter s pos' → ∃ pos, H.bs.get b = some (.iter s pos) ∧ l' = ρ b)
    (hm : b < H.nxt → ∀ es', x' = .map es' → ∃ es, H.bs.get b = some (.map es) ∧ l' = ρ b)
    (hb : Ext H ρ w ⟨(b, x') :: H.bs, max H.nxt (b + 1)⟩ (ρ.set b l') w' → BRep ⟨(b, x') :: H.bs, max H.nxt (b + 1)⟩ (ρ.set b l') w' l' x') :
    HRep ⟨(b, x') :: H.bs, max H.nxt (b + 1)⟩ (ρ.set b l') w' ∧ Ext H ρ w ⟨(b, x') :: H.bs, max H.nxt (b + 1)⟩ (ρ.set b l') w' := by
  have hmut : ∀ g, g < w.heap.size → Own ((b, x') :: H.bs) (ρ.set b l') g → Own H.bs ρ g := by
    rintro g hg ⟨i, x, hx, hgi, hn, ho⟩
    rw [Bs.get_cons] at hx
    by_cases hib : b = i
    · subst hib
      simp only [if_true, Rho.set_same] at hx hgi hn
      rcases (hl hn).2 with h | ⟨x0, h0, hn0, ho0, hg0⟩
      · omega
      · exact ⟨b, x0, h0, by omega, hn0, (Blk.open_iff x0).1 ho0⟩
    · have hne : ¬ i = b := fun h => hib h.symm
      simp only [if_neg hib, Rho.set_other ρ l' hne] at hx hgi hn
      exact ⟨i, x, hx, hgi, hn, ho⟩
  have hk : KeepsOut (Own H.bs ρ) w w' := fun g hg hng => hkeep g hg fun x hx hn ho hgg => hng ⟨b, x, hx, hgg, hn, (Blk.open_iff x).1 ho⟩
  have e : Ext H ρ w ⟨(b, x') :: H.bs, max H.nxt (b + 1)⟩ (ρ.set b l') w' := by
    refine ⟨Nat.le_max_left _ _, fun i sz ver rows' fz' hin h => ?_, fun i s pos' hin h => ?_, fun i es' hin h => ?_, hk, hs, hmut, fun g h => h, fun g _ h => .inl h, fun i x hx hn hg => ?_, hos, htape, hout⟩
    · rw [Bs.get_cons] at h
      by_cases hib : b = i
      · subst hib
        simp only [if_true, Option.some.injEq] at h
        obtain ⟨s0, v0, rows, fz, h1, h2, h3⟩ := hc hin sz ver rows' fz' h
        exact ⟨s0, v0, rows, fz, h1, h2, fun hv => by obtain ⟨q1, q2, q3⟩ := h3 hv; exact ⟨q1, q2, by simp [q3, Rho.set_same]⟩⟩
      · have hne : ¬ i = b := fun h => hib h.symm
        simp only [if_neg hib] at h
        exact ⟨sz, ver, rows', fz', h, Nat.le_refl _, fun _ => ⟨rfl, Nat.le_refl _, Rho.set_other ρ l' hne⟩⟩
    · rw [Bs.get_cons] at h
      by_cases hib : b = i
      · subst hib
        simp only [if_true, Option.some.injEq] at h
        obtain ⟨pos, h1, h3⟩ := hi hin s pos' h
        exact ⟨pos, h1, by simp [h3, Rho.set_same]⟩
      · have hne : ¬ i = b := fun h => hib h.symm
        simp only [if_neg hib] at h
        exact ⟨pos', h, Rho.set_other ρ l' hne⟩
    · rw [Bs.get_cons] at h
      by_cases hib : b = i
      · subst hib
        simp only [if_true, Option.some.injEq] at h
        obtain ⟨es, h1, h3⟩ := hm hin es' h
        exact ⟨es, h1, by simp [h3, Rho.set_same]⟩
      · have hne : ¬ i = b := fun h => hib h.symm
        simp only [if_neg hib] at h
        exact ⟨es', h, Rho.set_other ρ l' hne⟩
    · rw [Bs.get_cons] at hx
      by_cases hib : b = i
      · subst hib
        simp only [if_true, Rho.set_same] at hx hn hg ⊢
        rcases (hl hn).2 with h | ⟨x0, h0, hn0, ho0, hg0⟩
        · omega
        · exact ⟨b, x0, h0, hn0, hg0⟩
      · have hne : ¬ i = b := fun h => hib h.symm
        simp only [if_neg hib, Rho.set_other ρ l' hne] at hx hn hg ⊢
        exact ⟨i, x, hx, hn, rfl⟩
  refine ⟨⟨fun g hg => Nat.lt_of_lt_of_le (hH.xlt g hg) hs, fun i x hx hn hg => ?_, fun i x hx => ?_, fun i x hx => ?_, fun i x hx hn => ?_, fun i j x y hx hy hni hnj hg => ?_⟩, e⟩
  · rw [Bs.get_cons] at hx
    by_cases hib : b = i
    · subst hib
      simp only [Rho.set_same] at hn hg
      rcases (hl hn).2 with h | ⟨x0, h0, hn0, ho0, hg0⟩
      · have := hH.xlt _ hg; omega
      · exact hH.xno b x0 h0 hn0 (by rw [hg0]; exact hg)
    · have hne : ¬ i = b := fun h => hib h.symm
      simp only [if_neg hib, Rho.set_other ρ l' hne] at hx hn hg
      exact hH.xno i x hx hn hg
  · rw [Bs.get_cons] at hx
    by_cases hib : b = i
    · subst hib
      simp only [if_true, Option.some.injEq] at hx
      subst hx
      rw [Rho.set_same]
      exact hb e
    · have hne : ¬ i = b := fun h => hib h.symm
      simp only [if_neg hib] at hx
      rw [Rho.set_other ρ l' hne]
      have h0 := hH.blk i x hx
      have hsame : (ρ i).isNil = false → w'.heap[(ρ i).g]? = w.heap[(ρ i).g]? := fun hn =>
        hkeep _ (hH.glt i x hx hn) fun y hy hny _ hgy => hib (hH.apart b i y x hy hx hny hn hgy)
      cases x with
      | cells sz ver rows fz =>
        obtain ⟨h1, h2, h3, h4, h5, h6⟩ := h0
        refine ⟨h1, h2, h3, h4, h5, fun hn => ?_⟩
        obtain ⟨cs, el, h7, h8, h9⟩ := h6 hn
        refine ⟨cs, el, (hsame hn).trans h7, h8, fun p row j y hp hj => ?_⟩
        obtain ⟨u, hu, hr⟩ := h9 p row j y hp hj
        exact ⟨u, hu, hr.keep e⟩
      | iter s pos => exact ⟨h0.1, (hsame h0.1).trans h0.2⟩
      | map es =>
        obtain ⟨hn, ms, clock, h7, h8⟩ := h0
        exact ⟨hn, ms, clock, (hsame hn).trans h7, h8⟩
  · rw [Bs.get_cons] at hx
    by_cases hib : b = i
    · exact Nat.lt_of_lt_of_le (by omega) (Nat.le_max_right _ _)
    · simp only [if_neg hib] at hx
      exact Nat.lt_of_lt_of_le (hH.lt i x hx) (Nat.le_max_left _ _)
  · rw [Bs.get_cons] at hx
    by_cases hib : b = i
    · subst hib
      simp only [Rho.set_same] at hn ⊢
      exact (hl hn).1
    · have hne : ¬ i = b := fun h => hib h.symm
      simp only [if_neg hib] at hx
      simp only [Rho.set_other ρ l' hne] at hn ⊢
      exact Nat.lt_of_lt_of_le (hH.glt i x hx hn) hs
  · -- apart
    have aux : ∀ i x, ¬ b = i → Bs.get H.bs i = some x → (ρ i).isNil = false → l'.isNil = false → l'.g = (ρ i).g → False := by
      intro i x hib hx hn hn' hg
      rcases (hl hn').2 with h | ⟨y, hy, hny, _, hgy⟩
      · have := hH.glt i x hx hn; omega
      · exact hib (hH.apart b i y x hy hx hny hn (by omega))
    rw [Bs.get_cons] at hx hy
    by_cases hib : b = i <;> by_cases hjb : b = j
    · omega
    · exfalso
      subst hib
      have hne : ¬ j = b := fun h => hjb h.symm
      simp only [if_neg hjb, Rho.set_other ρ l' hne, Rho.set_same] at hy hnj hni hg
      exact aux j y hjb hy hnj hni hg
    · exfalso
      subst hjb
      have hne : ¬ i = b := fun h => hib h.symm
      simp only [if_neg hib, Rho.set_other ρ l' hne, Rho.set_same] at hx hnj hni hg
      exact aux i x hib hx hni hnj hg.symm
    · have hne : ¬ i = b := fun h => hib h.symm
      have hnf : ¬ j = b := fun h => hjb h.symm
      simp only [if_neg hib, if_neg hjb, Rho.set_other ρ l' hne, Rho.set_other ρ l' hnf] at hx hy hni hnj hg
      exact hH.apart i j x y hx hy hni hnj hg


theorem ARep.mkOwn {H : Hp} {ρ : Rho} {w : World} {b ver off len sz : Nat} {rows : List (List AV)} {fz : Bool} (hb : b < H.nxt) (hg : H.bs.get b = some (.cells sz ver rows fz)) (A : Option Addr) (c : Nat) (h1 : off + len ≤ rows.length) (h2 : len ≤ c)
    (h4 : 0 < c → off + c = (ρ b).cap ∧ A = some ⟨(ρ b).g, (ρ b).o + off * sz, none⟩) : ARep H ρ w (.own b ver off len) (.slice A len c) := by
  refine .own b ver off len _ hb rfl fun sz' v' rows' fz' hg' => ?_
  rw [hg] at hg'
  simp only [Option.some.injEq, Blk.cells.injEq] at hg'
  obtain ⟨rfl, rfl, rfl, rfl⟩ := hg'
  exact ⟨Nat.le_refl _, fun _ => ⟨h1, A, c, rfl, h2, h4⟩⟩

theorem ARep.mkPtr {H : Hp} {ρ : Rho} {w : World} {b ver i j sz : Nat} {rows : List (List AV)} {fz : Bool} (hb : b < H.nxt) (hg : H.bs.get b = some (.cells sz ver rows fz)) :
    ARep H ρ w (.ptr b ver i j) (.pointer (some ⟨(ρ b).g, (ρ b).o + i * sz + j, none⟩)) := by
  refine .ptr b ver i j _ hb rfl fun sz' v' rows' fz' hg' => ?_
  rw [hg] at hg'
  simp only [Option.some.injEq, Blk.cells.injEq] at hg'
  obtain ⟨rfl, rfl, rfl, rfl⟩ := hg'
  exact ⟨Nat.le_refl _, fun _ => rfl⟩

end Go.Av

namespace Go.Av
open Go.RowKit

/-- An operand. -/
inductive Od where
  | t (n : Nat)
  | c (v : Value)
  deriving Inhabited

def rsvOd : Operand → Option Od
  | .tmp n => some (.t n)
  | .const v => if v.oneCell' then some (.c v) else none
  | .func f => some (.c (.func (.func f) #[] #[]))
  | .global g => some (.c (.pointer (some ⟨g, 0, none⟩)))

def rsvOds : List Operand → Option (List Od)
  | [] => some []
  | x :: r => match rsvOd x, rsvOds r with
    | some y, some ys => some (y :: ys)
    | _, _ => none

/-- Operations, what their types say put in. -/
inductive RK where
  | mov (x : Od)
  | pick (c a b : Od)
  | alloc (zero : List Value)
  | box (imm : Bool) (sz : Nat) (x : Od)
  | build (zero : List Value) (parts : List (Nat × Nat × Od))
  | bslice (imm : Bool) (sz : Nat) (xs : List Od)
  | load (agg : Bool) (sz : Nat) (a : Od)
  | store (sz : Nat) (a v : Od)
  | nilc (x : Od)
  | bin (op : BinOp) (x y : Od)
  | binb (op : BinOp) (x y : Od)
  | not (x : Od)
  | neg (x : Od)
  | iconv (k : IntKind) (x : Od)
  | i2s (x : Od)
  | s2s (x : Od)
  | b2s (x : Od)
  | mkif (t : TypeId) (x : Od)
  | mkfn (f : Fn) (caps : List Od)
  | sslice (x : Od) (lo hi : Option Od)
  | slice (sz : Nat) (x : Od) (lo hi : Option Od)
  | faddr (off : Nat) (x : Od)
  | iaddr (sz : Nat) (x i : Od)
  | sindex (x i : Od)
  | srange (x : Od)
  | snext (x : Od)
  | extract (x : Od) (i : Nat)
  | len (x : Od)
  | slen (x : Od)
  | min (x y : Od)
  | max (x y : Od)
  | isnil (ifc neg : Bool) (x : Od)
  | capn (x : Od)
  | appn (sz bytes : Nat) (zero : List Value) (x n : Od)
  | append (sz bytes : Nat) (zero : List Value) (x y : Od)
  | bins (neg : Bool) (ks : List Nat) (x y : Od)
  | clear (sz : Nat) (zero : List Value) (x : Od)
  | panic (x : Od)
  | call (f : FuncId) (args : List Od)
  | callv (f : Od) (args : List Od)

abbrev Tm := List (Nat × LV)
def Tm.get : Tm → Nat → Option LV
  | [], _ => none
  | (a, v) :: r, n => if a = n then some v else Tm.get r n

def odv (tm : Tm) : Od → Option LV
  | .t n => tm.get n
  | .c v => some (.one (.iv (.sc v)))

def odvs (tm : Tm) : List Od → Option (List LV)
  | [] => some []
  | x :: r => match odv tm x, odvs tm r with
    | some y, some ys => some (y :: ys)
    | _, _ => none

/-- What an operation comes to: what must hold, its value, the heap. -/
structure R1 where
  pre : Prop
  lv : LV
  hp : Hp

def LV.cells : LV → List AV
  | .one x => [x]
  | .agg cs => cs
  | .tup _ => []

def ivs : List AV → Option (List IV)
  | [] => some []
  | .iv x :: r => (ivs r).map (x :: ·)
  | _ :: _ => none

theorem ivs_map (l : List IV) : ivs (l.map .iv) = some l := by
  induction l with
  | nil => rfl
  | cons x r ih => simp [ivs, ih]

def sct (v : Value) : AV := .iv (.sc v)

/-- Some cells are put over others. -/
def over (l : List AV) (off : Nat) : List AV → List AV
  | [] => l
  | x :: r => over (l.set off x) (off + 1) r

def bparts (tm : Tm) : List (Nat × Nat × Od) → List AV → Option (List AV)
  | [], l => some l
  | (off, sz, x) :: r, l => match odv tm x with
    | some v => if v.cells.length = sz then bparts tm r (over l off v.cells) else none
    | none => none

def brows (tm : Tm) (sz : Nat) : List Od → Option (List (List AV))
  | [] => some []
  | x :: r => match odv tm x, brows tm sz r with
    | some v, some rs => if v.cells.length = sz then some (v.cells :: rs) else none
    | _, _ => none

def ivrows : List (List AV) → Option (List (List IV))
  | [] => some []
  | x :: r => match ivs x, ivrows r with
    | some y, some ys => some (y :: ys)
    | _, _ => none

def Hp.new (hp : Hp) (x : Blk) : Hp := ⟨(hp.nxt, x) :: hp.bs, hp.nxt + 1⟩
def Hp.put (hp : Hp) (b : Nat) (x : Blk) : Hp := ⟨(b, x) :: hp.bs, hp.nxt⟩

def aload (hp : Hp) (agg : Bool) (sz : Nat) : LV → Option R1
  | .one (.ip cells j) =>
    if agg then some ⟨j + sz ≤ cells.length, .agg (((cells.drop j).take sz).map .iv), hp⟩
    else match cells[j]? with
      | some x => some ⟨True, .one (.iv x), hp⟩
      | none => none
  | .one (.ptr b ver i j) =>
    match hp.bs.get b with
    | some (.cells _ v rows _) =>
      if v = ver then
        match rows[i]? with
        | some row =>
          if agg then some ⟨j + sz ≤ row.length, .agg ((row.drop j).take sz), hp⟩
          else match row[j]? with
            | some x => some ⟨True, .one x, hp⟩
            | none => none
        | none => none
      else none
    | _ => none
  | _ => none

def astore (hp : Hp) (sz : Nat) : LV → LV → Option R1
  | .one (.ptr b ver i j), v =>
    match hp.bs.get b with
    | some (.cells s vr rows false) =>
      if vr = ver then
        match rows[i]? with
        | some row => some ⟨v.cells.length = sz ∧ j + sz ≤ row.length, .tup [], hp.put b (.cells s vr (rows.set i (over row j v.cells)) false)⟩
        | none => none
      else none
    | _ => none
  | _, _ => none

def abinI (op : BinOp) (k : IntKind) (a b : Int) : Option (Prop × Value) :=
  match op with
  | .add => some (True, .int k (k.wrap (a + b)))
  | .sub => some (True, .int k (k.wrap (a - b)))
  | .mul => some (True, .int k (k.wrap (a * b)))
  | .quo => some (b ≠ 0, .int k (k.wrap (a.tdiv b)))
  | .rem => some (b ≠ 0, .int k (a.tmod b))
  | .eql => some (True, .bool (a == b))
  | .neq => some (True, .bool (a != b))
  | .lss => some (True, .bool (decide (a < b)))
  | .leq => some (True, .bool (decide (a ≤ b)))
  | .gtr => some (True, .bool (decide (a > b)))
  | .geq => some (True, .bool (decide (a ≥ b)))
  | _ => none

def abinS (op : BinOp) (a b : ByteArray) : Option (Prop × Value) :=
  match op with
  | .add => some (a.size + b.size ≤ 9223372036854775807, .string (a ++ b))
  | .eql => some (True, .bool (a.toList == b.toList))
  | .neq => some (True, .bool (!(a.toList == b.toList)))
  | _ => none

def abinB (op : BinOp) (a b : Bool) : Option (Prop × Value) :=
  match op with
  | .eql => some (True, .bool (a == b))
  | .neq => some (True, .bool (!(a == b)))
  | _ => none

def abin (op : BinOp) : LV → LV → Option (Prop × Value)
  | .one (.iv (.sc (.int k a))), .one (.iv (.sc (.int k' b))) => if k = k' then abinI op k a b else none
  | .one (.iv (.sc (.string a))), .one (.iv (.sc (.string b))) => abinS op a b
  | _, _ => none

/-- A value with no address in it. -/
def AV.val : AV → Option Value
  | .iv (.sc v) => some v
  | _ => none
def vals : List AV → Option (List Value)
  | [] => some []
  | x :: r => match x.val, vals r with
    | some v, some vs => some (v :: vs)
    | _, _ => none
def LV.val : LV → Option Value
  | .one x => x.val
  | .agg cs => (vals cs).map fun vs => .agg vs.toArray
  | .tup _ => none

/-- Is a block's version the last one? -/
def Hp.live (hp : Hp) (b ver : Nat) : Bool :=
  match hp.bs.get b with
  | some (.cells _ v _ _) => v == ver
  | _ => false

/-- So, and are its elements of a size? -/
def Hp.lives (hp : Hp) (b ver sz : Nat) : Bool :=
  match hp.bs.get b with
  | some (.cells s v _ _) => v == ver && s == sz
  | _ => false

/-- What is known of a slice: its length. -/
def alen (hp : Hp) : LV → Option Int
  | .one (.iv (.sl _ rows)) => some rows.length
  | .one (.own b ver _ len) => if hp.live b ver then some len else none
  | .one (.iv (.sc (.slice _ n _))) => some n
  | _ => none

def ob (tm : Tm) (d : Int) : Option Od → Option Int
  | none => some d
  | some x => match odv tm x with
    | some (.one (.iv (.sc (.int _ n)))) => some n
    | _ => none

def aslice (hp : Hp) (tm : Tm) (sz : Nat) (lo hi : Option Od) : LV → Option R1
  | .one (.iv (.sl s rows)) =>
    match ob tm 0 lo, ob tm rows.length hi with
    | some l, some h => some ⟨s = sz ∧ 0 ≤ l ∧ l ≤ h ∧ h ≤ rows.length, .one (.iv (.sl s ((rows.take h.toNat).drop l.toNat))), hp⟩
    | _, _ => none
  | .one (.own b ver off len) =>
    if hp.lives b ver sz then match ob tm 0 lo, ob tm len hi with
    | some l, some h => some ⟨0 ≤ l ∧ l ≤ h ∧ h ≤ len, .one (.own b ver (off + l.toNat) (h.toNat - l.toNat)), hp⟩
    | _, _ => none
    else none
  | .one (.iv (.sc (.slice none 0 0))) =>
    match ob tm 0 lo, ob tm 0 hi with
    | some l, some h => some ⟨l = 0 ∧ h = 0, .one (.iv (.sc (.slice none 0 0))), hp⟩
    | _, _ => none
  | _ => none

def aiaddr (hp : Hp) (sz : Nat) : LV → LV → Option (Prop × AV)
  | .one (.iv (.sl s rows)), .one (.iv (.sc (.int _ i))) =>
    match rows[i.toNat]? with
    | some row => some (s = sz ∧ 0 ≤ i, .ip row 0)
    | none => none
  | .one (.own b ver off len), .one (.iv (.sc (.int _ i))) => if hp.lives b ver sz then some (0 ≤ i ∧ i < len, .ptr b ver (off + i.toNat) 0) else none
  | _, _ => none

/-- What is appended. -/
def arows (hp : Hp) (sz : Nat) : LV → Option (List (List AV))
  | .one (.iv (.sl s rows)) => if s = sz then some (rows.map fun r => r.map .iv) else none
  | .one (.iv (.sc (.slice none 0 0))) => some []
  | .one (.own b ver off len) =>
    match hp.bs.get b with
    | some (.cells s v rows _) => if v = ver ∧ s = sz then some ((rows.drop off).take len) else none
    | _ => none
  | _ => none

def aappend (hp : Hp) (sz bytes : Nat) (x y : LV) : Option R1 :=
  match arows hp sz y with
  | none => none
  | some news =>
    match x with
    | .one (.iv (.sc (.slice none 0 0))) =>
      some ⟨news.length * bytes ≤ 140737488355328 ∧ news.length ≤ 140737488355328, .one (.own hp.nxt 0 0 news.length), hp.new (.cells sz 0 news false)⟩
    | .one (.own b ver off len) =>
      match hp.bs.get b with
      | some (.cells s v rows false) =>
        if v = ver then
          some ⟨s = sz ∧ (len + news.length) * bytes ≤ 140737488355328 ∧ len + news.length ≤ 140737488355328,
            .one (.own b (ver + 1) 0 (len + news.length)), hp.put b (.cells sz (ver + 1) ((rows.drop off).take len ++ news) false)⟩
        else none
      | _ => none
    | _ => none

/-- Are two parts of structs alike? -/
def aeq1 : Nat → AV → AV → Option Bool
  | 0, .iv (.sc (.int k a)), .iv (.sc (.int k' b)) => if k = k' then some (a == b) else none
  | 1, .iv (.sc (.bool a)), .iv (.sc (.bool b)) => some (a == b)
  | 2, .iv (.sc (.string a)), .iv (.sc (.string b)) => some (a.toList == b.toList)
  | _, _, _ => none
def aeqs : List Nat → List AV → List AV → Option Bool
  | [], [], [] => some true
  | k :: ks, x :: r, y :: s => match aeq1 k x y, aeqs ks r s with
    | some a, some b => some (a && b)
    | _, _ => none
  | _, _, _ => none

/-- The bytes of a slice of bytes. -/
def abytes : List (List AV) → Option (List Int)
  | [] => some []
  | [.iv (.sc (.int .u8 n))] :: r => (abytes r).map (n :: ·)
  | _ => none

def aclear (hp : Hp) (sz : Nat) (zero : List Value) : LV → Option R1
  | .one (.own b ver off len) =>
    match hp.bs.get b with
    | some (.cells s v rows false) =>
      if v = ver ∧ s = sz ∧ zero.length = sz ∧ 0 < len then
        some ⟨True, .tup [], hp.put b (.cells s v (rows.take off ++ List.replicate len (zero.map sct) ++ rows.drop (off + len)) false)⟩
      else if v = ver ∧ len = 0 then some ⟨True, .tup [], hp⟩ else none
    | _ => none
  | .one (.iv (.sc (.slice none 0 0))) => some ⟨True, .tup [], hp⟩
  | _ => none

/-- Is a slice, or an interface's value, nil? -/
def aisnil (ifc : Bool) : LV → Option Bool
  | .one (.iv (.sl _ (_ :: _))) => if ifc then none else some false
  | .one (.iv (.sc (.slice none _ _))) => if ifc then none else some true
  | .one (.iv (.sc .nilIface)) => if ifc then some true else none
  | .one (.iv (.sc (.iface _ _))) => if ifc then some false else none
  | _ => none

/-- So many zeros are appended to nothing. -/
def aappn (hp : Hp) (sz bytes : Nat) (zero : List Value) : LV → LV → Option R1
  | .one (.iv (.sc (.slice none 0 0))), .one (.iv (.sc (.int .i64 n))) =>
    some ⟨0 < n ∧ n.toNat * bytes ≤ 140737488355328 ∧ n.toNat ≤ 140737488355328, .one (.own hp.nxt 0 0 n.toNat), hp.new (.cells sz 0 (List.replicate n.toNat (zero.map sct)) false)⟩
  | _, _ => none

def one? : LV → Option AV
  | .one x => some x
  | _ => none
def ones : List LV → Option (List AV)
  | [] => some []
  | x :: r => match one? x, ones r with
    | some y, some ys => some (y :: ys)
    | _, _ => none

def aop (tm : Tm) (hp : Hp) : RK → Option R1
  | .mov x => match odv tm x with
    | some v => some ⟨True, v, hp⟩
    | none => none
  | .pick c a b => match odv tm c with
    | some (.one (.iv (.sc (.bool true)))) => match odv tm a with
      | some v => some ⟨True, v, hp⟩
      | none => none
    | some (.one (.iv (.sc (.bool false)))) => match odv tm b with
      | some v => some ⟨True, v, hp⟩
      | none => none
    | _ => none
  | .alloc zero => some ⟨True, .one (.ptr hp.nxt 0 0 0), hp.new (.cells zero.length 0 [zero.map sct] false)⟩
  | .box imm sz x => match odv tm x with
    | some v =>
      if imm then match ivs v.cells with
        | some cs => some ⟨cs.length = sz, .one (.ip cs 0), hp⟩
        | none => none
      else some ⟨v.cells.length = sz, .one (.ptr hp.nxt 0 0 0), hp.new (.cells sz 0 [v.cells] false)⟩
    | none => none
  | .build zero parts => match bparts tm parts (zero.map sct) with
    | some cs => some ⟨True, .agg cs, hp⟩
    | none => none
  | .bslice imm sz xs => match brows tm sz xs with
    | some rows =>
      if imm then match ivrows rows with
        | some rs => some ⟨True, .one (.iv (.sl sz rs)), hp⟩
        | none => none
      else some ⟨True, .one (.own hp.nxt 0 0 rows.length), hp.new (.cells sz 0 rows false)⟩
    | none => none
  | .load agg sz a => match odv tm a with
    | some v => aload hp agg sz v
    | none => none
  | .store sz a x => match odv tm a, odv tm x with
    | some v, some u => astore hp sz v u
    | _, _ => none
  | .nilc x => match odv tm x with
    | some (.one (.ptr b ver i j)) => match hp.bs.get b with
      | some (.cells _ v _ _) => if v = ver then some ⟨True, .one (.ptr b ver i j), hp⟩ else none
      | _ => none
    | some (.one (.ip cs j)) => some ⟨True, .one (.ip cs j), hp⟩
    | _ => none
  | .isnil ifc neg x => match odv tm x with
    | some v => match aisnil ifc v with
      | some b => some ⟨True, .one (sct (.bool (if neg then !b else b))), hp⟩
      | none => none
    | none => none
  | .capn x => match odv tm x with
    | some (.one (.iv (.sc (.slice none 0 0)))) => some ⟨True, .one (sct (.int .i64 0)), hp⟩
    | _ => none
  | .appn sz bytes zero x n => match odv tm x, odv tm n with
    | some a, some b => aappn hp sz bytes zero a b
    | _, _ => none
  | .bin op x y => match odv tm x, odv tm y with
    | some a, some b => match abin op a b with
      | some (p, v) => some ⟨p, .one (sct v), hp⟩
      | none => none
    | _, _ => none
  | .binb op x y => match odv tm x, odv tm y with
    | some (.one (.iv (.sc (.bool a)))), some (.one (.iv (.sc (.bool b)))) => match abinB op a b with
      | some (p, v) => some ⟨p, .one (sct v), hp⟩
      | none => none
    | _, _ => none
  | .not x => match odv tm x with
    | some (.one (.iv (.sc (.bool b)))) => some ⟨True, .one (sct (.bool !b)), hp⟩
    | _ => none
  | .neg x => match odv tm x with
    | some (.one (.iv (.sc (.int k n)))) => some ⟨True, .one (sct (.int k (k.wrap (0 - n)))), hp⟩
    | _ => none
  | .iconv k x => match odv tm x with
    | some (.one (.iv (.sc (.int _ n)))) => some ⟨True, .one (sct (.int k (k.wrap n))), hp⟩
    | _ => none
  | .i2s x => match odv tm x with
    | some (.one (.iv (.sc (.int _ n)))) => some ⟨True, .one (sct (.string (Utf8.encode n))), hp⟩
    | _ => none
  | .s2s x => match odv tm x with
    | some (.one (.iv (.sc (.string s)))) => some ⟨True, .one (sct (.string s)), hp⟩
    | _ => none
  | .mkif t x => match odv tm x with
    | some v => match v.val with
      | some u => some ⟨True, .one (sct (.iface t u)), hp⟩
      | none => none
    | none => none
  | .mkfn f caps => match odvs tm caps with
    | some l => match ones l with
      | some cs => some ⟨True, .one (.fn f cs), hp⟩
      | none => none
    | none => none
  | .sslice x lo hi => match odv tm x with
    | some (.one (.iv (.sc (.string s)))) => match ob tm 0 lo, ob tm s.size hi with
      | some l, some h => some ⟨0 ≤ l ∧ l ≤ h ∧ h ≤ s.size, .one (sct (.string (s.extract l.toNat h.toNat))), hp⟩
      | _, _ => none
    | _ => none
  | .slice sz x lo hi => match odv tm x with
    | some v => aslice hp tm sz lo hi v
    | none => none
  | .faddr off x => match odv tm x with
    | some (.one (.ptr b ver i j)) => match hp.bs.get b with
      | some (.cells _ v _ _) => if v = ver then some ⟨True, .one (.ptr b ver i (j + off)), hp⟩ else none
      | _ => none
    | some (.one (.ip cs j)) => some ⟨True, .one (.ip cs (j + off)), hp⟩
    | _ => none
  | .iaddr sz x i => match odv tm x, odv tm i with
    | some a, some b => match aiaddr hp sz a b with
      | some (p, v) => some ⟨p, .one v, hp⟩
      | none => none
    | _, _ => none
  | .sindex x i => match odv tm x, odv tm i with
    | some (.one (.iv (.sc (.string s)))), some (.one (.iv (.sc (.int _ n)))) => match s[n.toNat]? with
      | some c => some ⟨0 ≤ n, .one (sct (.int .u8 c.toNat)), hp⟩
      | none => none
    | _, _ => none
  | .srange x => match odv tm x with
    | some (.one (.iv (.sc (.string s)))) => some ⟨True, .one (.it hp.nxt), hp.new (.iter s 0)⟩
    | _ => none
  | .snext x => match odv tm x with
    | some (.one (.it b)) => match hp.bs.get b with
      | some (.iter s pos) =>
        if pos < s.size then
          some ⟨True, .tup [.one (sct (.bool true)), .one (sct (.int .i64 pos)), .one (sct (.int .i32 (Utf8.decode s pos).1))], hp.put b (.iter s (pos + (Utf8.decode s pos).2))⟩
        else some ⟨True, .tup [.one (sct (.bool false))], hp⟩
      | _ => none
    | _ => none
  | .extract x i => match odv tm x with
    | some (.tup l) => match l[i]? with
      | some v => some ⟨True, v, hp⟩
      | none => none
    | _ => none
  | .len x => match odv tm x with
    | some v => match alen hp v with
      | some n => some ⟨True, .one (sct (.int .i64 n)), hp⟩
      | none => none
    | none => none
  | .slen x => match odv tm x with
    | some (.one (.iv (.sc (.string s)))) => some ⟨True, .one (sct (.int .i64 s.size)), hp⟩
    | _ => none
  | .min x y => match odv tm x, odv tm y with
    | some (.one (.iv (.sc (.int k a)))), some (.one (.iv (.sc (.int _ b)))) => some ⟨True, .one (sct (.int k (if b < a then b else a))), hp⟩
    | _, _ => none
  | .max x y => match odv tm x, odv tm y with
    | some (.one (.iv (.sc (.int k a)))), some (.one (.iv (.sc (.int _ b)))) => some ⟨True, .one (sct (.int k (if b > a then b else a))), hp⟩
    | _, _ => none
  | .append sz bytes _ x y => match odv tm x, odv tm y with
    | some a, some b => aappend hp sz bytes a b
    | _, _ => none
  | .bins neg ks x y => match odv tm x, odv tm y with
    | some (.agg a), some (.agg b) => match aeqs ks a b with
      | some r => some ⟨True, .one (sct (.bool (if neg then !r else r))), hp⟩
      | none => none
    | _, _ => none
  | .b2s x => match odv tm x with
    | some v => match arows hp 1 v with
      | some rows => match abytes rows with
        | some ns => some ⟨True, .one (sct (.string (strOfNums ns))), hp⟩
        | none => none
      | none => none
    | none => none
  | .clear sz zero x => match odv tm x with
    | some v => aclear hp sz zero v
    | none => none
  | _ => none
end Go.Av

namespace Go.Av
open Go.RowKit

def TRep (H : Hp) (ρ : Rho) (w : World) (tm : Tm) (a : Act) : Prop := ∀ t lv, tm.get t = some lv → LRep H ρ w lv (a.tmps.getD t undef)

theorem odv_rep {H : Hp} {ρ : Rho} {w : World} {tm : Tm} {a : Act} (hT : TRep H ρ w tm a) {x : Operand} {y : Od} {lv : LV} (hx : rsvOd x = some y) (hy : odv tm y = some lv) : LRep H ρ w lv (a.eval x) := by
  cases x with
  | tmp n =>
    simp only [rsvOd, Option.some.injEq] at hx
    subst hx
    exact hT n lv hy
  | const v =>
    simp only [rsvOd] at hx
    split at hx
    · rename_i h1
      simp only [Option.some.injEq] at hx
      subst hx
      simp only [odv, Option.some.injEq] at hy
      subst hy
      exact .one _ _ (.iv _ _ (.sc v h1))
    · cases hx
  | func f =>
    simp only [rsvOd, Option.some.injEq] at hx
    subst hx
    simp only [odv, Option.some.injEq] at hy
    subst hy
    exact .one _ _ (.iv _ _ (.sc _ rfl))
  | global g =>
    simp only [rsvOd, Option.some.injEq] at hx
    subst hx
    simp only [odv, Option.some.injEq] at hy
    subst hy
    exact .one _ _ (.iv _ _ (.sc _ rfl))

/-- What an operation's soundness says. -/
def Sound (P : Program) (op : Op) (rk : RK) : Prop :=
  ∀ (H : Hp) (ρ : Rho) (w : World) (tm : Tm) (a : Act) (o : Oper) (r : R1), o.op = op → TRep H ρ w tm a → HRep H ρ w → aop tm H rk = some r → r.pre →
    ∃ n v w' ρ', (execOp a.eval o).run P w = .ok n w' ∧ (n = .value v ∨ (n = .skip ∧ v = undef)) ∧ LRep r.hp ρ' w' r.lv v ∧ HRep r.hp ρ' w' ∧ Ext H ρ w r.hp ρ' w'

theorem sound_mov (P : Program) (x : Operand) (y : Od) (hx : rsvOd x = some y) : Sound P (.move x) (.mov y) := by
  intro H ρ w tm a o r ho hT hH hr hp
  simp only [aop] at hr
  split at hr
  · rename_i v hv
    simp only [Option.some.injEq] at hr
    subst hr
    exact ⟨_, a.eval x, w, ρ, by simp [execOp, ho], .inl rfl, odv_rep hT hx hv, hH, Ext.refl _ _ _⟩
  · cases hr

theorem sound_assign (P : Program) (x : Operand) (y : Od) (hx : rsvOd x = some y) : Sound P (.assign x) (.mov y) := by
  intro H ρ w tm a o r ho hT hH hr hp
  simp only [aop] at hr
  split at hr
  · rename_i v hv
    simp only [Option.some.injEq] at hr
    subst hr
    exact ⟨_, a.eval x, w, ρ, by simp [execOp, ho], .inl rfl, odv_rep hT hx hv, hH, Ext.refl _ _ _⟩
  · cases hr

theorem LRep.scI {H : Hp} {ρ : Rho} {w : World} {x v : Value} (h : LRep H ρ w (.one (.iv (.sc x))) v) : v = x := by
  cases h with
  | one _ _ h => cases h with
    | iv _ _ h => cases h with
      | sc _ h => rfl

theorem LRep.scM {H : Hp} {ρ : Rho} {w : World} {x : Value} (h : x.oneCell' = true) : LRep H ρ w (.one (sct x)) x := .one _ _ (.iv _ _ (.sc _ h))

theorem sound_pick (P : Program) (c x y : Operand) (c' x' y' : Od) (hc : rsvOd c = some c') (hx : rsvOd x = some x') (hy : rsvOd y = some y') : Sound P (.pick c x y) (.pick c' x' y') := by
  intro H ρ w tm a o r ho hT hH hr hp
  simp only [aop] at hr
  split at hr
  · rename_i hv
    split at hr
    · rename_i v hw
      simp only [Option.some.injEq] at hr
      subst hr
      have e := (odv_rep hT hc hv).scI
      exact ⟨.value (a.eval x), a.eval x, w, ρ, by simp [execOp, ho, e, asBool], .inl rfl, odv_rep hT hx hw, hH, Ext.refl _ _ _⟩
    · cases hr
  · rename_i hv
    split at hr
    · rename_i v hw
      simp only [Option.some.injEq] at hr
      subst hr
      have e := (odv_rep hT hc hv).scI
      exact ⟨.value (a.eval y), a.eval y, w, ρ, by simp [execOp, ho, e, asBool], .inl rfl, odv_rep hT hy hw, hH, Ext.refl _ _ _⟩
    · cases hr
  · cases hr

/-! ### a new block -/
theorem heap_alloc_get (w : World) (o : Obj) (g : Nat) (h : g < w.heap.size) : (w.alloc o).heap[g]? = w.heap[g]? := Below.heap_alloc w o g h

theorem hp_new_eq (H : Hp) (x : Blk) : H.new x = ⟨(H.nxt, x) :: H.bs, max H.nxt (H.nxt + 1)⟩ := by
  unfold Hp.new
  congr 1
  omega

theorem get_nxt {H : Hp} {ρ : Rho} {w : World} (hH : HRep H ρ w) : H.bs.get H.nxt = none := by
  cases h : H.bs.get H.nxt with
  | none => rfl
  | some x => have := hH.lt _ _ h; omega

/-- A new block of cells. -/
theorem new_cells {H : Hp} {ρ : Rho} {w : World} (hH : HRep H ρ w) (o : Obj) (x : Blk) (l : Loc) (hl : l.isNil = false → l.g = w.heap.size)
    (hb : ∀ H' ρ', Ext H ρ w H' ρ' (w.alloc o) → BRep H' ρ' (w.alloc o) l x) :
    HRep (H.new x) (ρ.set H.nxt l) (w.alloc o) ∧ Ext H ρ w (H.new x) (ρ.set H.nxt l) (w.alloc o) := by
  rw [hp_new_eq]
  refine turn hH H.nxt x l (by simp) rfl rfl rfl (fun g hg _ => heap_alloc_get w o g hg) (fun hn => ?_) (fun h => by omega) (fun h => by omega) (fun h => by omega) (fun e => hb _ _ e)
  have := hl hn
  exact ⟨by simp; omega, .inl (by omega)⟩

theorem ptr_new {H : Hp} {ρ : Rho} {w : World} {x : Blk} {sz ver : Nat} {rows : List (List AV)} {fz : Bool} (hx : x = .cells sz ver rows fz) (g cap : Nat) :
    LRep (H.new x) (ρ.set H.nxt ⟨g, 0, cap, false⟩) w (.one (.ptr H.nxt ver 0 0)) (.pointer (some ⟨g, 0, none⟩)) := by
  subst hx
  have := ARep.mkPtr (H := H.new (.cells sz ver rows fz)) (ρ := ρ.set H.nxt ⟨g, 0, cap, false⟩) (w := w) (b := H.nxt) (i := 0) (j := 0) (sz := sz) (ver := ver) (rows := rows) (fz := fz) (by simp [Hp.new]) (by simp [Hp.new, Bs.get_cons])
  refine .one _ _ ?_
  simpa using this

theorem sound_alloc (P : Program) (t : TypeId) (i : TypeInfo) (z : Value) (hi : P.info? t = some i) (hz : i.zero = some z) (h1 : ∀ v ∈ z.cells.toList, v.oneCell' = true) (h0 : 0 < z.cells.toList.length) :
    Sound P (.alloc t) (.alloc z.cells.toList) := by
  intro H ρ w tm a o r ho hT hH hr hp
  simp only [aop, Option.some.injEq] at hr
  subst hr
  have hrun : (execOp a.eval o).run P w = .ok (.value (.pointer (some ⟨w.heap.size, 0, none⟩))) (w.alloc (.cells z.cells t)) := by
    simp [execOp, ho, Instr.alloc, zeroValue, typeInfo, hi, hz, newVar, newRow]
  obtain ⟨hH', e⟩ := new_cells hH (.cells z.cells t) (.cells z.cells.toList.length 0 [z.cells.toList.map sct] false) ⟨w.heap.size, 0, 1, false⟩ (fun _ => rfl) (fun H' ρ' e => by
    refine ⟨fun i row hrow => ?_, h0, by simp, by simp, by simp, fun _ => ⟨z.cells, t, heap_alloc_new w _, by simp, fun i row j x hrow hx => ?_⟩⟩
    · rcases i with _ | i <;> simp at hrow
      subst hrow; simp
    · rcases i with _ | i <;> simp at hrow
      subst hrow
      simp only [List.getElem?_map] at hx
      cases hq : z.cells.toList[j]? with
      | none => simp [hq] at hx
      | some u =>
        simp only [hq, Option.map_some, Option.some.injEq] at hx
        subst hx
        refine ⟨u, by simpa using hq, .iv _ _ (.sc _ (h1 u ?_))⟩
        exact List.mem_of_getElem? hq)
  exact ⟨_, _, _, _, hrun, .inl rfl, ptr_new rfl _ _, hH', e⟩

theorem one_cells {v : Value} (h : v.oneCell' = true) : v.cells = #[v] := by cases v <;> first | rfl | simp [Value.oneCell'] at h

/-- A value's cells. -/
theorem LRep.cellsRep {H : Hp} {ρ : Rho} {w : World} {lv : LV} {v : Value} (h : LRep H ρ w lv v) (h0 : 0 < lv.cells.length) :
    v.cells.size = lv.cells.length ∧ ∀ (i : Nat) (x : AV), lv.cells[i]? = some x → ∃ u, v.cells[i]? = some u ∧ ARep H ρ w x u := by
  cases h with
  | one x v h =>
    rw [one_cells h.one]
    refine ⟨rfl, fun i y hy => ?_⟩
    simp only [LV.cells] at hy
    rcases i with _ | i <;> simp at hy
    subst hy
    exact ⟨v, rfl, h⟩
  | agg cs vs cv hs hv hr => exact ⟨hs, fun i x hx => ⟨cv i, hv i x hx, hr i x hx⟩⟩
  | tup => simp [LV.cells] at h0

theorem ivs_get : ∀ {l : List AV} {cs : List IV}, ivs l = some cs → l = cs.map .iv
  | [], cs, h => by simp [ivs] at h; subst h; rfl
  | x :: r, cs, h => by
    cases x with
    | iv x =>
      simp only [ivs] at h
      cases hq : ivs r with
      | none => simp [hq] at h
      | some ys =>
        simp only [hq, Option.map_some, Option.some.injEq] at h
        subst h
        rw [ivs_get hq]; rfl
    | _ => simp [ivs] at h

theorem ARep.ivR {H : Hp} {ρ : Rho} {w : World} {x : IV} {v : Value} (h : ARep H ρ w (.iv x) v) : IRep (Mut H.bs ρ) w x v := by
  cases h with
  | iv _ _ h => exact h

theorem not_mut_new {H : Hp} {ρ : Rho} {w : World} (hH : HRep H ρ w) : ¬ Mut H.bs ρ w.heap.size := by
  rintro (h | ⟨b, x, hx, hg, hn, _⟩)
  · have := hH.xlt _ h; omega
  · have := hH.glt b x hx hn
    omega

theorem ext_alloc {H : Hp} {ρ : Rho} {w : World} (o : Obj) : Ext H ρ w H ρ (w.alloc o) :=
  ⟨Nat.le_refl _, fun b sz ver rows fz _ h => ⟨sz, ver, rows, fz, h, Nat.le_refl _, fun _ => ⟨rfl, Nat.le_refl _, rfl⟩⟩, fun b s pos _ h => ⟨pos, h, rfl⟩, fun b es _ h => ⟨es, h, rfl⟩, fun g hg _ => heap_alloc_get w o g hg, by simp, fun g _ h => h, fun g h => h, fun g _ h => .inl h, fun b x h1 h2 _ => ⟨b, x, h1, h2, rfl⟩, rfl, rfl, rfl⟩

/-- The heap's blocks live on where the world has a new block that is no block of the heap's. -/
theorem HRep.keep {H : Hp} {ρ : Rho} {w w' : World} (hH : HRep H ρ w) (e : Ext H ρ w H ρ w') (hk : ∀ g, g < w.heap.size → w'.heap[g]? = w.heap[g]?) : HRep H ρ w' := by
  refine ⟨fun g hg => Nat.lt_of_lt_of_le (hH.xlt g hg) e.size, hH.xno, fun i x hx => ?_, hH.lt, fun b x hx hn => Nat.lt_of_lt_of_le (hH.glt b x hx hn) e.size, hH.apart⟩
  have h0 := hH.blk i x hx
  cases x with
  | cells sz ver rows fz =>
    obtain ⟨h1, h2, h3, h4, h5, h6⟩ := h0
    refine ⟨h1, h2, h3, h4, h5, fun hn => ?_⟩
    obtain ⟨cs, el, h7, h8, h9⟩ := h6 hn
    refine ⟨cs, el, (hk _ (hH.glt i _ hx hn)).trans h7, h8, fun p row j y hp hj => ?_⟩
    obtain ⟨u, hu, hr⟩ := h9 p row j y hp hj
    exact ⟨u, hu, hr.keep e⟩
  | iter s pos => exact ⟨h0.1, (hk _ (hH.glt i _ hx h0.1)).trans h0.2⟩
  | map es =>
    obtain ⟨hn, ms, clock, h7, h8⟩ := h0
    exact ⟨hn, ms, clock, (hk _ (hH.glt i _ hx hn)).trans h7, h8⟩

theorem HRep.alloc {H : Hp} {ρ : Rho} {w : World} (hH : HRep H ρ w) (o : Obj) : HRep H ρ (w.alloc o) := hH.keep (ext_alloc o) (fun g hg => heap_alloc_get w o g hg)

theorem get_of_cells {w : World} {g k : Nat} {cs : Array Value} {e : TypeId} {fz : Nat × Nat} {u : Value} (h : w.heap[g]? = some (.cells cs e fz)) (hk : cs[k]? = some u) : w.cell? ⟨g, k, none⟩ = some u := by
  simp [World.cell?, h, hk]


theorem sound_box (P : Program) (imm : Bool) (t : TypeId) (x : Operand) (y : Od) (hx : rsvOd x = some y) (sz : Nat) (h0 : 0 < sz) : Sound P (.box t x) (.box imm sz y) := by
  intro H ρ w tm a o r ho hT hH hr hp
  simp only [aop] at hr
  split at hr
  · rename_i lv hv
    have hl := odv_rep hT hx hv
    have hrun : (execOp a.eval o).run P w = .ok (.value (.pointer (some ⟨w.heap.size, 0, none⟩))) (w.alloc (.cells (a.eval x).cells t)) := by
      simp [execOp, ho, Instr.box, newVar, newRow]
    split at hr
    · split at hr
      · rename_i cs hcs
        simp only [Option.some.injEq] at hr
        subst hr
        have hcs' := ivs_get hcs
        have hp : cs.length = sz := hp
        have hpos : 0 < lv.cells.length := by rw [hcs']; simp; omega
        obtain ⟨h1, h2⟩ := hl.cellsRep hpos
        refine ⟨_, _, _, ρ, hrun, .inl rfl, ?_, hH.alloc _, ext_alloc _⟩
        refine .one _ _ (.ip cs 0 w.heap.size 0 (fun i => ((a.eval x).cells[i]?).getD undef) (not_mut_new hH) (by simp) (fun i x hx => ?_) (fun i x hx => ?_))
        · obtain ⟨u, hu, hr⟩ := h2 i (.iv x) (by rw [hcs']; simp [hx])
          simp only [hu, Option.getD_some]
          exact get_of_cells (heap_alloc_new w _) (by simpa using hu)
        · obtain ⟨u, hu, hr⟩ := h2 i (.iv x) (by rw [hcs']; simp [hx])
          simp only [hu, Option.getD_some]
          exact (hr.keep (ext_alloc _)).ivR
      · cases hr
    · simp only [Option.some.injEq] at hr
      subst hr
      have hp : lv.cells.length = sz := hp
      obtain ⟨h1, h2⟩ := hl.cellsRep (by omega)
      obtain ⟨hH', e⟩ := new_cells hH (.cells (a.eval x).cells t) (.cells sz 0 [lv.cells] false) ⟨w.heap.size, 0, 1, false⟩ (fun _ => rfl) (fun H' ρ' e => by
        refine ⟨fun i row hrow => ?_, h0, by simp, by simp, by simp, fun _ => ⟨(a.eval x).cells, t, heap_alloc_new w _, by simp; omega, fun i row j x hrow hx => ?_⟩⟩
        · rcases i with _ | i <;> simp at hrow
          subst hrow; exact hp
        · rcases i with _ | i <;> simp at hrow
          subst hrow
          obtain ⟨u, hu, hr⟩ := h2 j x hx
          exact ⟨u, by simpa using hu, hr.keep e⟩)
      exact ⟨_, _, _, _, hrun, .inl rfl, ptr_new rfl _ _, hH', e⟩
  · cases hr

/-! ### reading -/
theorem add_none (g o j : Nat) : (⟨g, o, none⟩ : Addr).add j = ⟨g, o + j, none⟩ := by unfold Addr.add; split <;> simp_all

theorem LRep.ptrI {H : Hp} {ρ : Rho} {w : World} {b ver i j : Nat} {v : Value} (h : LRep H ρ w (.one (.ptr b ver i j)) v) {sz : Nat} {rows : List (List AV)} {fz : Bool} (hg : H.bs.get b = some (.cells sz ver rows fz)) :
    v = .pointer (some ⟨(ρ b).g, (ρ b).o + i * sz + j, none⟩) := by
  cases h with
  | one _ _ h => cases h with
    | ptr _ _ _ _ _ _ _ h => exact (h sz ver rows fz hg).2 rfl

/-- An element's cells, in the world. -/
theorem row_cells {H : Hp} {ρ : Rho} {w : World} (hH : HRep H ρ w) {b sz ver : Nat} {rows : List (List AV)} {fz : Bool} (hg : H.bs.get b = some (.cells sz ver rows fz)) {i : Nat} {row : List AV} (hi : rows[i]? = some row) :
    row.length = sz ∧ (ρ b).isNil = false ∧ ∀ j x, row[j]? = some x → ∃ u, w.cell? ⟨(ρ b).g, (ρ b).o + i * sz + j, none⟩ = some u ∧ ARep H ρ w x u := by
  obtain ⟨h1, h2, h3, h4, h5, h6⟩ := hH.blk b _ hg
  have hlt := (List.getElem?_eq_some_iff.1 hi).1
  have hn : (ρ b).isNil = false := by
    cases hq : (ρ b).isNil with
    | false => rfl
    | true => have := h5 hq; omega
  obtain ⟨cs, e, h7, h8, h9⟩ := h6 hn
  refine ⟨h1 i row hi, hn, fun j x hx => ?_⟩
  obtain ⟨u, hu, hr⟩ := h9 i row j x hi hx
  exact ⟨u, get_of_cells h7 hu, hr⟩

theorem run_isAgg (P : Program) (t : TypeId) (d : TypeDesc) (hd : P.underlying t = some d) (w : World) :
    (isAgg t).run P w = .ok (match d with | .struct _ | .array _ _ => true | _ => false) w := by
  simp only [isAgg, Sem.run_bind, run_underlying hd, Result.andThen_ok]
  cases d <;> rfl

def aggD : TypeDesc → Bool
  | .struct _ | .array _ _ => true
  | _ => false

theorem run_loadVar (P : Program) (t : TypeId) (d : TypeDesc) (i : TypeInfo) (hd : P.underlying t = some d) (hi : P.info? t = some i) (a : Addr) (w : World) :
    (loadVar t a).run P w = if aggD d then ((loadCells a i.size).run P w).andThen fun cs w' => .ok (.agg cs) w' else (load a).run P w := by
  have hs : (sizeOf t).run P w = .ok i.size w := by simp [sizeOf, typeInfo, hi]
  simp only [loadVar, Sem.run_bind, run_isAgg P t d hd, Result.andThen_ok]
  cases d <;> simp [aggD, hs]

theorem load_var (P : Program) (t : TypeId) (d : TypeDesc) (i : TypeInfo) (hd : P.underlying t = some d) (hi : P.info? t = some i) (h0 : 0 < i.size) {H : Hp} {ρ : Rho} {w : World} (hH : HRep H ρ w) {lv : LV} {r : R1} (hr : aload H (aggD d) i.size lv = some r) (hp : r.pre) {ev : Value} (hl : LRep H ρ w lv ev) :
    ∃ ad v, ev = .pointer (some ad) ∧ (loadVar t ad).run P w = .ok v w ∧ LRep H ρ w r.lv v ∧ r.hp = H := by
  have key : ∀ (g k : Nat) (cells : List AV) (hpre : aggD d = true → i.size ≤ cells.length) (lv' : LV) (hlv : if aggD d then lv' = .agg (cells.take i.size) else ∃ z, cells[0]? = some z ∧ lv' = .one z)
      (hc : ∀ j z, cells[j]? = some z → ∃ u, w.cell? ⟨g, k + j, none⟩ = some u ∧ ARep H ρ w z u),
      ∃ v, (loadVar t ⟨g, k, none⟩).run P w = .ok v w ∧ LRep H ρ w lv' v := by
    intro g k cells hpre lv' hlv hc
    rw [run_loadVar P t d i hd hi]
    by_cases hagg : aggD d = true
    · simp only [hagg, if_true] at hlv ⊢
      subst hlv
      have hlen := hpre hagg
      let cv : Nat → Value := fun j => (w.cell? ⟨g, k + j, none⟩).getD undef
      have hcs : ∀ j, j < i.size → w.cell? ((⟨g, k, none⟩ : Addr).add j) = some (cv j) := by
        intro j hj
        rw [add_none]
        have hj' : j < cells.length := by omega
        obtain ⟨u, hu, _⟩ := hc j cells[j] (List.getElem?_eq_getElem hj')
        simp [cv, hu]
      rw [run_loadCells (P := P) (w := w) ⟨g, k, none⟩ i.size cv hcs]
      simp only [Result.andThen_ok]
      refine ⟨_, rfl, .agg _ _ cv (by simp; omega) (fun j z hz => ?_) (fun j z hz => ?_)⟩
      · have hj : j < i.size := by
          have := (List.getElem?_eq_some_iff.1 hz).1
          simp at this; omega
        simp [hj]
      · have hz' : cells[j]? = some z := by
          rw [List.getElem?_take] at hz
          split at hz
          · exact hz
          · cases hz
        obtain ⟨u, hu, hr⟩ := hc j z hz'
        simp only [cv, hu, Option.getD_some]
        exact hr
    · simp only [hagg, if_false, Bool.false_eq_true] at hlv ⊢
      obtain ⟨z, hz, rfl⟩ := hlv
      obtain ⟨u, hu, hr⟩ := hc 0 z hz
      simp only [Nat.add_zero] at hu
      refine ⟨u, ?_, .one _ _ hr⟩
      rw [run_load]
      simp [hu]
  simp only [aload] at hr
  split at hr
  · rename_i cells j
    cases hl with
    | one _ _ hl =>
      cases hl with
      | ip _ _ g k cv hm hlt hc hrr =>
        have hcc : ∀ j' z, ((cells.drop j).map AV.iv)[j']? = some z → ∃ u, w.cell? ⟨g, (k + j) + j', none⟩ = some u ∧ ARep H ρ w z u := by
          intro j' z hz
          simp only [List.getElem?_map, List.getElem?_drop] at hz
          cases hq : cells[j + j']? with
          | none => simp [hq] at hz
          | some q =>
            simp only [hq, Option.map_some, Option.some.injEq] at hz
            subst hz
            exact ⟨cv (j + j'), by rw [Nat.add_assoc]; exact hc _ _ hq, .iv _ _ (hrr _ _ hq)⟩
        split at hr
        · rename_i hagg
          simp only [Option.some.injEq] at hr
          subst hr
          have hp : j + i.size ≤ cells.length := hp
          obtain ⟨v, h1, h2⟩ := key g (k + j) _ (fun _ => by simp; omega) (.agg (((cells.drop j).take i.size).map .iv)) (by simp [hagg, List.map_take]) hcc
          exact ⟨_, v, rfl, h1, h2, rfl⟩
        · rename_i hagg
          split at hr
          · rename_i z hz
            simp only [Option.some.injEq] at hr
            subst hr
            obtain ⟨v, h1, h2⟩ := key g (k + j) _ (fun h => absurd h hagg) (.one (.iv z)) (by simp [hagg, hz]) hcc
            exact ⟨_, v, rfl, h1, h2, rfl⟩
          · cases hr
  · rename_i b ver ii j
    split at hr
    · rename_i s v rows fz hg
      split at hr
      · rename_i hver
        subst hver
        split at hr
        · rename_i row hrow
          have hev := hl.ptrI hg
          obtain ⟨g1, g2, g3⟩ := row_cells hH hg hrow
          have hcc : ∀ j' z, (row.drop j)[j']? = some z → ∃ u, w.cell? ⟨(ρ b).g, ((ρ b).o + ii * s + j) + j', none⟩ = some u ∧ ARep H ρ w z u := by
            intro j' z hz
            rw [List.getElem?_drop] at hz
            obtain ⟨u, h1, h2⟩ := g3 _ _ hz
            exact ⟨u, by rw [Nat.add_assoc ((ρ b).o + ii * s)]; exact h1, h2⟩
          split at hr
          · rename_i hagg
            simp only [Option.some.injEq] at hr
            subst hr
            have hp : j + i.size ≤ row.length := hp
            obtain ⟨v, h1, h2⟩ := key _ _ _ (fun _ => by simp; omega) (.agg ((row.drop j).take i.size)) (by simp [hagg]) hcc
            exact ⟨_, v, hev, h1, h2, rfl⟩
          · rename_i hagg
            split at hr
            · rename_i z hz
              simp only [Option.some.injEq] at hr
              subst hr
              obtain ⟨v, h1, h2⟩ := key _ _ _ (fun h => absurd h hagg) (.one z) (by simp [hagg, hz]) hcc
              exact ⟨_, v, hev, h1, h2, rfl⟩
            · cases hr
        · cases hr
      · cases hr
    · cases hr
  · cases hr

theorem sound_load (P : Program) (t : TypeId) (d : TypeDesc) (i : TypeInfo) (hd : P.underlying t = some d) (hi : P.info? t = some i) (x : Operand) (y : Od) (hx : rsvOd x = some y) (h0 : 0 < i.size) :
    Sound P (.load t x) (.load (aggD d) i.size y) := by
  intro H ρ w tm a o r ho hT hH hr hp
  simp only [aop] at hr
  split at hr
  · rename_i lv hv
    obtain ⟨ad, v, h1, h2, h3, h4⟩ := load_var P t d i hd hi h0 hH hr hp (odv_rep hT hx hv)
    rw [h4]
    exact ⟨_, v, w, ρ, by simp [execOp, ho, Instr.loadAt, Instr.sureAddr, h1, h2], .inl rfl, h3, hH, Ext.refl _ _ _⟩
  · cases hr
end Go.Av

namespace Go.Av
open Go.RowKit

theorem over_length (l : List AV) (off : Nat) (xs : List AV) : (over l off xs).length = l.length := by
  induction xs generalizing l off with
  | nil => rfl
  | cons x r ih => simp [over, ih]

theorem over_get (l : List AV) (off : Nat) (xs : List AV) (h : off + xs.length ≤ l.length) (j : Nat) :
    (over l off xs)[j]? = if off ≤ j ∧ j < off + xs.length then xs[j - off]? else l[j]? := by
  induction xs generalizing l off with
  | nil => simp [over]; omega
  | cons x r ih =>
    simp only [over, List.length_cons] at h ⊢
    rw [ih (l.set off x) (off + 1) (by simp; omega)]
    by_cases h1 : off + 1 ≤ j ∧ j < off + 1 + r.length
    · rw [if_pos h1, if_pos (by omega)]
      obtain ⟨m, hm⟩ : ∃ m, j - off = m + 1 := ⟨j - off - 1, by omega⟩
      have : j - (off + 1) = m := by omega
      rw [hm, this]; simp
    · rw [if_neg h1]
      by_cases h2 : j = off
      · subst h2
        rw [if_pos (by omega)]
        have hj : j < l.length := by omega
        simp [hj]
      · rw [if_neg (by omega), List.getElem?_set_ne (by omega)]

theorem setRow_size (w : World) (g : Nat) (c : Array Value) : (w.setRow g c).heap.size = w.heap.size := by simp [World.setRow]

theorem sound_store (P : Program) (t : TypeId) (i : TypeInfo) (hi : P.info? t = some i) (x z : Operand) (x' z' : Od) (hx : rsvOd x = some x') (hz : rsvOd z = some z') (h0 : 0 < i.size) :
    Sound P (.store t x z) (.store i.size x' z') := by
  intro H ρ w tm a o r ho hT hH hr hp
  simp only [aop] at hr
  split at hr
  · rename_i lx lz hlx hlz
    have rx := odv_rep hT hx hlx
    have rz := odv_rep hT hz hlz
    unfold astore at hr
    split at hr
    · rename_i b ver ii j
      split at hr
      · rename_i s vr rows hg
        split at hr
        · rename_i hver
          subst hver
          split at hr
          · rename_i row hrow
            simp only [Option.some.injEq] at hr
            subst hr
            obtain ⟨hlen, hj⟩ : lz.cells.length = i.size ∧ j + i.size ≤ row.length := hp
            have hev := rx.ptrI hg
            obtain ⟨c1, c2⟩ := rz.cellsRep (by omega)
            obtain ⟨g1, g2, g3⟩ := row_cells hH hg hrow
            obtain ⟨k1, k2, k3, k4, k5, k6⟩ := hH.blk b _ hg
            obtain ⟨cs, e, k7, k8, k9⟩ := k6 g2
            have hii : ii < rows.length := (List.getElem?_eq_some_iff.1 hrow).1
            have hfit : (ρ b).o + ii * s + j + (a.eval z).cells.toList.length ≤ cs.size := by
              have : (ii + 1) * s ≤ (ρ b).cap * s := Nat.mul_le_mul_right _ (by omega)
              rw [Nat.add_mul] at this
              simp; omega
            have hone : ∀ u ∈ (a.eval z).cells.toList, u.oneCell' = true := by
              intro u hu
              obtain ⟨q, hq, rfl⟩ := List.mem_iff_getElem.1 hu
              have hq' : q < lz.cells.length := by simp at hq; omega
              obtain ⟨u', hu', hr'⟩ := c2 q lz.cells[q] (List.getElem?_eq_getElem hq')
              have : (a.eval z).cells.toList[q] = u' := by
                have hq2 : q < (a.eval z).cells.size := by simpa using hq
                rw [Array.getElem?_eq_getElem hq2] at hu'
                simpa using hu'
              rw [this]
              exact hr'.one
            have hst := run_storeCells_at P (ρ b).g ((ρ b).o + ii * s + j) e (a.eval z).cells.toList 0 cs w k7 (by simpa using hfit) hone
            simp only [Nat.add_zero] at hst
            have hrun : (execOp a.eval o).run P w = .ok .skip (w.setRow (ρ b).g (cs.toList.take ((ρ b).o + ii * s + j) ++ (a.eval z).cells.toList ++ cs.toList.drop ((ρ b).o + ii * s + j + (a.eval z).cells.toList.length)).toArray) := by
              have hsz : ¬ (a.eval z).cells.size ≠ i.size := by omega
              simp [execOp, ho, Instr.storeAt, Instr.sureAddr, hev, storeVar, sizeOf, typeInfo, hi, hsz, hst]
            have hcur' : ∀ k, (cs.toList.take ((ρ b).o + ii * s + j) ++ (a.eval z).cells.toList ++ cs.toList.drop ((ρ b).o + ii * s + j + (a.eval z).cells.toList.length)).toArray[k]? =
                if (ρ b).o + ii * s + j ≤ k ∧ k < (ρ b).o + ii * s + j + i.size then (a.eval z).cells[k - ((ρ b).o + ii * s + j)]? else cs[k]? := by
              intro k
              have hl1 : (cs.toList.take ((ρ b).o + ii * s + j)).length = (ρ b).o + ii * s + j := by simp; simp at hfit; omega
              have hl2 : (a.eval z).cells.toList.length = i.size := by simp; omega
              simp only [List.getElem?_toArray, List.append_assoc]
              by_cases h1 : k < (ρ b).o + ii * s + j
              · rw [List.getElem?_append_left (by omega), if_neg (by omega), List.getElem?_take, if_pos h1]; simp
              · rw [List.getElem?_append_right (by omega), hl1]
                by_cases h2 : k < (ρ b).o + ii * s + j + i.size
                · rw [List.getElem?_append_left (by omega), if_pos (by omega)]; simp
                · rw [List.getElem?_append_right (by omega), if_neg (by omega), hl2, List.getElem?_drop]
                  have : (ρ b).o + ii * s + j + i.size + (k - ((ρ b).o + ii * s + j) - i.size) = k := by omega
                  rw [this]; simp
            generalize hcur : (cs.toList.take ((ρ b).o + ii * s + j) ++ (a.eval z).cells.toList ++ cs.toList.drop ((ρ b).o + ii * s + j + (a.eval z).cells.toList.length)).toArray = cur at hrun hcur'
            have hsize : cur.size = cs.size := by
              rw [← hcur]; simp at hfit ⊢; omega
            have hb : b < H.nxt := hH.lt b _ hg
            have hput : H.put b (.cells s vr (rows.set ii (over row j lz.cells)) false) = ⟨(b, .cells s vr (rows.set ii (over row j lz.cells)) false) :: H.bs, max H.nxt (b + 1)⟩ := by
              unfold Hp.put
              congr 1; omega
            have hρ : ρ.set b (ρ b) = ρ := Rho.set_self ρ b
            obtain ⟨hH', e'⟩ := turn (w' := w.setRow (ρ b).g cur) hH b (.cells s vr (rows.set ii (over row j lz.cells)) false) (ρ b) (by rw [setRow_size]; exact Nat.le_refl _) rfl rfl rfl
              (fun g hg' hno => setRow_other w (ρ b).g g _ (fun h => hno _ hg g2 (by rfl) h.symm))
              (fun _ => ⟨by rw [setRow_size]; exact hH.glt b _ hg g2, .inr ⟨_, hg, g2, rfl, rfl⟩⟩)
              (fun _ sz ver rows' fz' h => by
                simp only [Blk.cells.injEq] at h
                obtain ⟨rfl, rfl, rfl, rfl⟩ := h
                exact ⟨_, _, rows, false, hg, Nat.le_refl _, fun _ => ⟨rfl, by simp, rfl⟩⟩)
              (fun _ s pos' h => by cases h) (fun _ es h => by cases h)
              (fun e' => by
                refine ⟨fun p rw' hrw => ?_, k2, by simpa using k3, by simpa using k4, k5, fun _ => ⟨cur, e, setRow_heap w _ cs cur e _ k7, by omega, fun p rw' q y hrw hy => ?_⟩⟩
                · rw [List.getElem?_set] at hrw
                  split at hrw
                  · simp only [Option.some.injEq] at hrw
                    subst hrw
                    rw [over_length]; exact g1
                  · exact k1 p rw' hrw
                · rw [hcur']
                  rw [List.getElem?_set] at hrw
                  split at hrw
                  · rename_i hpi
                    subst hpi
                    simp only [Option.some.injEq] at hrw
                    subst hrw
                    rw [over_get row j lz.cells (by omega)] at hy
                    split at hy
                    · rename_i hin
                      obtain ⟨u, hu, hr'⟩ := c2 _ y hy
                      refine ⟨u, ?_, hr'.keep e'⟩
                      rw [if_pos (by omega)]
                      have : (ρ b).o + ii * s + q - ((ρ b).o + ii * s + j) = q - j := by omega
                      rw [this]; exact hu
                    · rename_i hin
                      obtain ⟨u, hu, hr'⟩ := k9 ii row q y hrow hy
                      refine ⟨u, ?_, hr'.keep e'⟩
                      rw [if_neg (by omega)]
                      exact hu
                  · rename_i hpi
                    have hq : q < s := by
                      have h1 := k1 p rw' hrw
                      have := (List.getElem?_eq_some_iff.1 hy).1
                      omega
                    obtain ⟨u, hu, hr'⟩ := k9 p rw' q y hrw hy
                    refine ⟨u, ?_, hr'.keep e'⟩
                    rw [if_neg ?_]
                    · exact hu
                    · intro hin
                      rcases Nat.lt_or_gt_of_ne hpi with h | h
                      · have : (ii + 1) * s ≤ p * s := Nat.mul_le_mul_right _ (by omega)
                        rw [Nat.add_mul] at this; omega
                      · have : (p + 1) * s ≤ ii * s := Nat.mul_le_mul_right _ (by omega)
                        rw [Nat.add_mul] at this; omega)
            rw [hρ, ← hput] at hH' e'
            exact ⟨_, undef, _, ρ, hrun, .inr ⟨rfl, rfl⟩, .tup _ _ (fun _ => undef) rfl (by simp) (by simp), hH', e'⟩
          · cases hr
        · cases hr
      · cases hr
    · cases hr
  · cases hr
end Go.Av

namespace Go.Av
open Go.RowKit

theorem abinI_run (P : Program) (w : World) (t : TypeId) (op : BinOp) (k : IntKind) (a b : Int) {p : Prop} {v : Value} (h : abinI op k a b = some (p, v)) (hp : p) :
    (binOp op t (.int k a) (.int k b)).run P w = .ok v w ∧ v.oneCell' = true := by
  cases op <;> simp only [abinI, Option.some.injEq, Prod.mk.injEq, reduceCtorEq] at h
  all_goals
    obtain ⟨h1, rfl⟩ := h
    refine ⟨?_, rfl⟩
    subst h1
    simp_all [binOp, Op.intArith, Op.intDiv, Op.intCmp]

theorem abinS_run (P : Program) (w : World) (t : TypeId) (op : BinOp) (a b : ByteArray) {p : Prop} {v : Value} (h : abinS op a b = some (p, v)) (hp : p) :
    (binOp op t (.string a) (.string b)).run P w = .ok v w ∧ v.oneCell' = true := by
  cases op <;> simp only [abinS, Option.some.injEq, Prod.mk.injEq, reduceCtorEq] at h
  · obtain ⟨h1, rfl⟩ := h
    refine ⟨?_, rfl⟩
    have hle : a.size + b.size ≤ 9223372036854775807 := by rw [h1]; exact hp
    have hn : ¬ ((a.size + b.size : Nat) : Int) > IntKind.i64.max := by rw [show IntKind.i64.max = 9223372036854775807 from rfl]; omega
    simp only [binOp, Op.stringOp, if_neg hn]
    simp
  · obtain ⟨h1, rfl⟩ := h
    refine ⟨?_, rfl⟩
    simp [binOp, Op.stringOp]
  · obtain ⟨h1, rfl⟩ := h
    refine ⟨?_, rfl⟩
    simp [binOp, Op.stringOp]

theorem eqGuard_plain (P : Program) (w : World) (op : BinOp) (t : TypeId) (x y : Operand) (a b : Value) (h1 : a.oneCell' = true) (h2 : a ≠ .nilIface) : (eqGuard op t x y a b).run P w = .ok () w := by
  cases a <;> first | exact absurd rfl h2 | (simp [Value.oneCell'] at h1; done) | (cases op <;> simp [eqGuard])

theorem sound_bin (P : Program) (op : BinOp) (t : TypeId) (x y : Operand) (yt : TypeId) (x' y' : Od) (hx : rsvOd x = some x') (hy : rsvOd y = some y') :
    Sound P (.binOp op t x y yt) (.bin op x' y') := by
  intro H ρ w tm a o r ho hT hH hr hp
  simp only [aop] at hr
  split at hr
  · rename_i la lb hla hlb
    have ra := odv_rep hT hx hla
    have rb := odv_rep hT hy hlb
    split at hr
    · rename_i p v hab
      simp only [Option.some.injEq] at hr
      subst hr
      have hp : p := hp
      have key : ∀ va vb, a.eval x = va → a.eval y = vb → va.oneCell' = true → va ≠ .nilIface → (binOp op t va vb).run P w = .ok v w → v.oneCell' = true →
          ∃ n v' w' ρ', (execOp a.eval o).run P w = .ok n w' ∧ (n = .value v' ∨ (n = .skip ∧ v' = undef)) ∧ LRep H ρ' w' (.one (sct v)) v' ∧ HRep H ρ' w' ∧ Ext H ρ w H ρ' w' := by
        intro va vb e1 e2 h1 h2 h3 h4
        refine ⟨.value v, v, w, ρ, ?_, .inl rfl, LRep.scM h4, hH, Ext.refl _ _ _⟩
        simp [execOp, ho, e1, e2, eqGuard_plain P w op t x y va vb h1 h2, h3]
      unfold abin at hab
      split at hab
      · split at hab
        · rename_i hk
          subst hk
          obtain ⟨h3, h4⟩ := abinI_run P w t op _ _ _ hab hp
          exact key _ _ ra.scI rb.scI rfl (by simp) h3 h4
        · cases hab
      · obtain ⟨h3, h4⟩ := abinS_run P w t op _ _ hab hp
        exact key _ _ ra.scI rb.scI rfl (by simp) h3 h4
      · cases hab
    · cases hr
  · cases hr

theorem sound_binb (P : Program) (op : BinOp) (t : TypeId) (ht : P.underlying t = some .bool) (x y : Operand) (yt : TypeId) (x' y' : Od) (hx : rsvOd x = some x') (hy : rsvOd y = some y') :
    Sound P (.binOp op t x y yt) (.binb op x' y') := by
  intro H ρ w tm a o r ho hT hH hr hp
  simp only [aop] at hr
  split at hr
  · rename_i ba bb hla hlb
    have ra := (odv_rep hT hx hla).scI
    have rb := (odv_rep hT hy hlb).scI
    split at hr
    · rename_i p v hab
      simp only [Option.some.injEq] at hr
      subst hr
      have hq : (Op.equal t (.bool ba) (.bool bb)).run P w = .ok (ba == bb) w := by
        simp only [Op.equal, Op.maxDepth]
        unfold Op.equalIn
        simp [run_underlying ht]
      unfold abinB at hab
      split at hab <;> simp only [Option.some.injEq, Prod.mk.injEq, reduceCtorEq] at hab
      · obtain ⟨h1, rfl⟩ := hab
        refine ⟨.value _, _, w, ρ, ?_, .inl rfl, LRep.scM rfl, hH, Ext.refl _ _ _⟩
        simp [execOp, ho, ra, rb, eqGuard_plain P w _ t x y (.bool ba) (.bool bb) rfl (by simp), binOp, hq]
      · obtain ⟨h1, rfl⟩ := hab
        refine ⟨.value _, _, w, ρ, ?_, .inl rfl, LRep.scM rfl, hH, Ext.refl _ _ _⟩
        simp [execOp, ho, ra, rb, eqGuard_plain P w _ t x y (.bool ba) (.bool bb) rfl (by simp), binOp, hq]
    · cases hr
  · cases hr

/-- Operations whose value is plain. -/
theorem sound_plain {P : Program} {H : Hp} {ρ : Rho} {w : World} {a : Act} {o : Oper} {v : Value} (hH : HRep H ρ w) (hrun : (execOp a.eval o).run P w = .ok (.value v) w) (h1 : v.oneCell' = true) :
    ∃ n v' w' ρ', (execOp a.eval o).run P w = .ok n w' ∧ (n = .value v' ∨ (n = .skip ∧ v' = undef)) ∧ LRep H ρ' w' (.one (sct v)) v' ∧ HRep H ρ' w' ∧ Ext H ρ w H ρ' w' :=
  ⟨_, v, w, ρ, hrun, .inl rfl, LRep.scM h1, hH, Ext.refl _ _ _⟩

theorem sound_not (P : Program) (t : TypeId) (x : Operand) (x' : Od) (hx : rsvOd x = some x') : Sound P (.unOp .not t x) (.not x') := by
  intro H ρ w tm a o r ho hT hH hr hp
  simp only [aop] at hr
  split at hr
  · rename_i b hl
    have e := (odv_rep hT hx hl).scI
    simp only [Option.some.injEq] at hr
    subst hr
    exact sound_plain hH (by simp [execOp, ho, e, Op.unary]) rfl
  · cases hr

theorem sound_neg (P : Program) (t : TypeId) (x : Operand) (x' : Od) (hx : rsvOd x = some x') : Sound P (.unOp .neg t x) (.neg x') := by
  intro H ρ w tm a o r ho hT hH hr hp
  simp only [aop] at hr
  split at hr
  · rename_i k n hl
    have e := (odv_rep hT hx hl).scI
    simp only [Option.some.injEq] at hr
    subst hr
    exact sound_plain hH (by simp [execOp, ho, e, Op.unary, Op.intArith]) rfl
  · cases hr

theorem sound_iconv (P : Program) (s d : TypeId) (k : IntKind) (ds : TypeDesc) (hs : P.underlying s = some ds) (hd : P.underlying d = some (.int k)) (x : Operand) (x' : Od) (hx : rsvOd x = some x') : Sound P (.convert s d x) (.iconv k x') := by
  intro H ρ w tm a o r ho hT hH hr hp
  simp only [aop] at hr
  split at hr
  · rename_i k' n hl
    have e := (odv_rep hT hx hl).scI
    simp only [Option.some.injEq] at hr
    subst hr
    exact sound_plain hH (by simp [execOp, ho, e, convert, run_underlying hs, run_underlying hd, Conv.intToInt]) rfl
  · cases hr

theorem sound_i2s (P : Program) (s d : TypeId) (ds : TypeDesc) (hs : P.underlying s = some ds) (hd : P.underlying d = some .string) (x : Operand) (x' : Od) (hx : rsvOd x = some x') : Sound P (.convert s d x) (.i2s x') := by
  intro H ρ w tm a o r ho hT hH hr hp
  simp only [aop] at hr
  split at hr
  · rename_i k' n hl
    have e := (odv_rep hT hx hl).scI
    simp only [Option.some.injEq] at hr
    subst hr
    exact sound_plain hH (by simp [execOp, ho, e, convert, run_underlying hs, run_underlying hd, Conv.intToString]) rfl
  · cases hr

theorem sound_s2s (P : Program) (s d : TypeId) (ds : TypeDesc) (hs : P.underlying s = some ds) (hd : P.underlying d = some .string) (x : Operand) (x' : Od) (hx : rsvOd x = some x') : Sound P (.convert s d x) (.s2s x') := by
  intro H ρ w tm a o r ho hT hH hr hp
  simp only [aop] at hr
  split at hr
  · rename_i n hl
    have e := (odv_rep hT hx hl).scI
    simp only [Option.some.injEq] at hr
    subst hr
    exact sound_plain hH (by simp [execOp, ho, e, convert, run_underlying hs, run_underlying hd]) rfl
  · cases hr

theorem AV.val_rep {H : Hp} {ρ : Rho} {w : World} {x : AV} {v u : Value} (h : x.val = some v) (hr : ARep H ρ w x u) : u = v := by
  unfold AV.val at h
  split at h
  · simp only [Option.some.injEq] at h
    subst h
    exact (LRep.one _ _ hr).scI
  · cases h

theorem vals_rep {H : Hp} {ρ : Rho} {w : World} : ∀ {cs : List AV} {vs : List Value}, vals cs = some vs → ∀ (us : List Value), us.length = cs.length → (∀ (i : Nat) (x : AV), cs[i]? = some x → ∃ u, us[i]? = some u ∧ ARep H ρ w x u) → us = vs
  | [], vs, h, us, hl, _ => by
    simp only [vals, Option.some.injEq] at h
    subst h
    exact List.eq_nil_of_length_eq_zero hl
  | x :: r, vs, h, us, hl, hh => by
    simp only [vals] at h
    split at h
    · rename_i v vs' hv hvs
      simp only [Option.some.injEq] at h
      subst h
      cases us with
      | nil => simp at hl
      | cons u us =>
        obtain ⟨u', hu', hr⟩ := hh 0 x rfl
        simp only [List.getElem?_cons_zero, Option.some.injEq] at hu'
        subst hu'
        have e1 := AV.val_rep hv hr
        have e2 := vals_rep hvs us (by simpa using hl) (fun i y hy => by
          obtain ⟨u', hu', hr⟩ := hh (i + 1) y (by simpa using hy)
          exact ⟨u', by simpa using hu', hr⟩)
        rw [e1, e2]
    · cases h

theorem LV.val_rep {H : Hp} {ρ : Rho} {w : World} {lv : LV} {v u : Value} (h : lv.val = some v) (hr : LRep H ρ w lv u) : u = v := by
  cases hr with
  | one x u hr => exact AV.val_rep h hr
  | agg cs vs cv hs hv hr =>
    simp only [LV.val] at h
    cases hq : vals cs with
    | none => simp [hq] at h
    | some ws =>
      simp only [hq, Option.map_some, Option.some.injEq] at h
      subst h
      have := vals_rep hq vs.toList (by simpa using hs) (fun i x hx => ⟨cv i, by simpa using hv i x hx, hr i x hx⟩)
      rw [← this]
  | tup => simp [LV.val] at h

theorem sound_mkif (P : Program) (t : TypeId) (d : TypeDesc) (hd : P.underlying t = some d) (hn : ∀ ms, d ≠ .interface ms) (x : Operand) (x' : Od) (hx : rsvOd x = some x') : Sound P (.makeInterface t x) (.mkif t x') := by
  intro H ρ w tm a o r ho hT hH hr hp
  simp only [aop] at hr
  split at hr
  · rename_i lv hl
    split at hr
    · rename_i u hu
      have e := LV.val_rep hu (odv_rep hT hx hl)
      simp only [Option.some.injEq] at hr
      subst hr
      refine sound_plain hH ?_ rfl
      simp only [execOp, ho, e, Instr.makeInterface, Sem.run_bind, run_underlying hd, Result.andThen_ok]
      cases d <;> first | exact absurd rfl (hn _) | simp
    · cases hr
  · cases hr

theorem sound_extract (P : Program) (x : Operand) (i : Nat) (x' : Od) (hx : rsvOd x = some x') : Sound P (.extract x i) (.extract x' i) := by
  intro H ρ w tm a o r ho hT hH hr hp
  simp only [aop] at hr
  split at hr
  · rename_i l hl
    split at hr
    · rename_i v hv
      simp only [Option.some.injEq] at hr
      subst hr
      have hrep := odv_rep hT hx hl
      generalize hev : a.eval x = ev at hrep
      cases hrep with
      | tup xs vs cv hs hvv hrr =>
        exact ⟨.value (cv i), cv i, w, ρ, by simp [execOp, ho, hev, Instr.extract, hvv i v hv], .inl rfl, hrr i v hv, hH, Ext.refl _ _ _⟩
    · cases hr
  · cases hr


theorem sound_nilc (P : Program) (x : Operand) (x' : Od) (hx : rsvOd x = some x') : Sound P (.nilCheck x) (.nilc x') := by
  intro H ρ w tm a o r ho hT hH hr hp
  simp only [aop] at hr
  split at hr
  · rename_i b ver i j hl
    split at hr
    · rename_i sz v rows fz hg
      split at hr
      · rename_i hver
        subst hver
        simp only [Option.some.injEq] at hr
        subst hr
        have hrep := odv_rep hT hx hl
        have hev := hrep.ptrI hg
        rw [hev] at hrep
        exact ⟨_, _, w, ρ, by simp only [execOp, ho, hev]; rfl, .inl rfl, hrep, hH, Ext.refl _ _ _⟩
      · cases hr
    · cases hr
  · rename_i cs j hl
    simp only [Option.some.injEq] at hr
    subst hr
    have hrep := odv_rep hT hx hl
    generalize hev : a.eval x = ev at hrep
    cases hrep with
    | one _ _ h =>
      have h' := h
      cases h with
      | ip => exact ⟨_, _, w, ρ, by simp only [execOp, ho, hev]; rfl, .inl rfl, .one _ _ h', hH, Ext.refl _ _ _⟩
  · cases hr

theorem sound_faddr (P : Program) (s : TypeId) (fs : Array Field) (hs : P.underlying s = some (.struct fs)) (k : Nat) (f : Field) (hf : fs[k]? = some f) (fi : TypeInfo) (hfi : P.info? f.type = some fi) (h0 : fi.size ≠ 0)
    (x : Operand) (x' : Od) (hx : rsvOd x = some x') : Sound P (.fieldAddr s x k) (.faddr f.offset x') := by
  intro H ρ w tm a o r ho hT hH hr hp
  have hrun : ∀ g k', a.eval x = .pointer (some ⟨g, k', none⟩) → (execOp a.eval o).run P w = .ok (.value (.pointer (some ⟨g, k' + f.offset, none⟩))) w := by
    intro g k' e
    simp [execOp, ho, e, Instr.fieldAt, run_underlying hs, hf, Instr.sureAddr, fieldPlace, sizeOf, typeInfo, hfi, h0, add_none]
  simp only [aop] at hr
  split at hr
  · rename_i b ver i j hl
    split at hr
    · rename_i sz v rows fz hg
      split at hr
      · rename_i hver
        subst hver
        simp only [Option.some.injEq] at hr
        subst hr
        have hrep := odv_rep hT hx hl
        have hev := hrep.ptrI hg
        have hb := hH.lt b _ hg
        refine ⟨_, _, w, ρ, hrun _ _ hev, .inl rfl, ?_, hH, Ext.refl _ _ _⟩
        have := ARep.mkPtr (w := w) (i := i) (j := j + f.offset) hb hg (ρ := ρ)
        rw [← Nat.add_assoc] at this
        exact .one _ _ this
      · cases hr
    · cases hr
  · rename_i cs j hl
    simp only [Option.some.injEq] at hr
    subst hr
    have hrep := odv_rep hT hx hl
    generalize hev : a.eval x = ev at hrep
    cases hrep with
    | one _ _ h =>
      cases h with
      | ip _ _ g o' cv hm hlt hc hrr =>
        refine ⟨_, _, w, ρ, hrun _ _ hev, .inl rfl, ?_, hH, Ext.refl _ _ _⟩
        rw [Nat.add_assoc]
        exact .one _ _ (.ip _ _ g o' cv hm hlt hc hrr)
  · cases hr

/-! ### strings, and going through them -/
theorem sound_srange (P : Program) (t : TypeId) (ht : P.underlying t = some .string) (x : Operand) (x' : Od) (hx : rsvOd x = some x') : Sound P (.range t x) (.srange x') := by
  intro H ρ w tm a o r ho hT hH hr hp
  simp only [aop] at hr
  split at hr
  · rename_i s hl
    have e := (odv_rep hT hx hl).scI
    simp only [Option.some.injEq] at hr
    subst hr
    have hrun : (execOp a.eval o).run P w = .ok (.value (.pointer (some ⟨w.heap.size, 0, none⟩))) (w.alloc (.stringIter s 0)) := by
      simp [execOp, ho, e, Instr.range, run_underlying ht]
    obtain ⟨hH', e'⟩ := new_cells hH (.stringIter s 0) (.iter s 0) ⟨w.heap.size, 0, 0, false⟩ (fun _ => rfl) (fun H' ρ' e => ⟨rfl, heap_alloc_new w _⟩)
    refine ⟨_, _, _, _, hrun, .inl rfl, .one _ _ (.it _ _ (by simp [Hp.new]) rfl fun s' pos hg => ?_), hH', e'⟩
    simp
  · cases hr

theorem setObj_run (P : Program) (w : World) (g : Nat) (o o' : Obj) (h : w.heap[g]? = some o) (hn : ∀ cs e fz, o ≠ .cells cs e fz) :
    (setObj g o').run P w = .ok () { w with heap := w.heap.setIfInBounds g o' } := by
  cases o <;> first | exact absurd rfl (hn _ _ _) | simp only [setObj, Sem.run, h]

theorem getObj_run (P : Program) (w : World) (g : Nat) (o : Obj) (h : w.heap[g]? = some o) (hn : ∀ cs e fz, o ≠ .cells cs e fz) :
    (getObj g).run P w = .ok o w := by
  cases o <;> first | exact absurd rfl (hn _ _ _) | simp only [getObj, Sem.run, h]

theorem sound_snext (P : Program) (x : Operand) (x' : Od) (hx : rsvOd x = some x') : Sound P (.next x true) (.snext x') := by
  intro H ρ w tm a o r ho hT hH hr hp
  simp only [aop] at hr
  split at hr
  · rename_i b hl
    split at hr
    · rename_i s pos hg
      have hrep := odv_rep hT hx hl
      have hev : a.eval x = .pointer (some ⟨(ρ b).g, 0, none⟩) := by
        cases hrep with
        | one _ _ h => cases h with
          | it _ _ _ _ h => exact h s pos hg
      obtain ⟨hn, hw⟩ := hH.blk b _ hg
      have hget := getObj_run P w (ρ b).g _ hw (by simp)
      split at hr
      · rename_i hlt
        simp only [Option.some.injEq] at hr
        subst hr
        have hset := setObj_run P w (ρ b).g _ (.stringIter s (pos + (Utf8.decode s pos).2)) hw (by simp)
        have hrun : (execOp a.eval o).run P w = .ok (.value (.tuple #[.bool true, .int .i64 pos, .int .i32 (Utf8.decode s pos).1])) { w with heap := w.heap.setIfInBounds (ρ b).g (.stringIter s (pos + (Utf8.decode s pos).2)) } := by
          simp only [execOp, ho, hev, Instr.next, Sem.run_bind, hget, Result.andThen_ok, hlt, if_true, hset, Sem.run_pure, goInt]
        have hb := hH.lt b _ hg
        have hput : H.put b (.iter s (pos + (Utf8.decode s pos).2)) = ⟨(b, .iter s (pos + (Utf8.decode s pos).2)) :: H.bs, max H.nxt (b + 1)⟩ := by
          unfold Hp.put
          congr 1; omega
        have hρ : ρ.set b (ρ b) = ρ := Rho.set_self ρ b
        have hglt := hH.glt b _ hg hn
        obtain ⟨hH', e'⟩ := turn (w' := { w with heap := w.heap.setIfInBounds (ρ b).g (.stringIter s (pos + (Utf8.decode s pos).2)) }) hH b (.iter s (pos + (Utf8.decode s pos).2)) (ρ b) (by simp) rfl rfl rfl
          (fun g hg' hno => by
            have hne : (ρ b).g ≠ g := fun h => hno _ hg hn rfl h
            simp [Array.getElem?_setIfInBounds, hne])
          (fun _ => ⟨by simpa using hglt, .inr ⟨_, hg, hn, rfl, rfl⟩⟩)
          (fun _ sz ver rows' fz' h => by cases h)
          (fun _ s' pos' h => by
            simp only [Blk.iter.injEq] at h
            obtain ⟨rfl, rfl⟩ := h
            exact ⟨pos, hg, rfl⟩)
          (fun _ es h => by cases h)
          (fun e' => ⟨hn, by simp [Array.getElem?_setIfInBounds, hglt]⟩)
        rw [hρ, ← hput] at hH' e'
        refine ⟨_, _, _, ρ, hrun, .inl rfl, ?_, hH', e'⟩
        refine .tup _ _ (fun i => (#[Value.bool true, .int .i64 pos, .int .i32 (Utf8.decode s pos).1][i]?).getD undef) (by simp) (fun i y hy => ?_) (fun i y hy => ?_)
        · rcases i with _ | _ | _ | i <;> simp at hy ⊢
        · rcases i with _ | _ | _ | i <;> simp at hy ⊢ <;> subst hy <;> exact LRep.scM rfl
      · rename_i hlt
        simp only [Option.some.injEq] at hr
        subst hr
        have hrun : (execOp a.eval o).run P w = .ok (.value (.tuple #[.bool false])) w := by
          simp only [execOp, ho, hev, Instr.next, Sem.run_bind, hget, Result.andThen_ok, hlt, if_false, Sem.run_pure]
        refine ⟨_, _, w, ρ, hrun, .inl rfl, ?_, hH, Ext.refl _ _ _⟩
        refine .tup _ _ (fun i => .bool false) (by simp) (fun i y hy => ?_) (fun i y hy => ?_)
        · rcases i with _ | i <;> simp at hy ⊢
        · rcases i with _ | i <;> simp at hy ⊢ <;> subst hy <;> exact LRep.scM rfl
    · cases hr
  · cases hr

theorem ob_rep {H : Hp} {ρ : Rho} {w : World} {tm : Tm} {a : Act} (hT : TRep H ρ w tm a) {d : Int} {x : Operand} {x' : Od} {n : Int} (hx : rsvOd x = some x') (h : ob tm d (some x') = some n) : ∃ k, a.eval x = .int k n := by
  simp only [ob] at h
  split at h
  · rename_i kk m hl
    simp only [Option.some.injEq] at h
    subst h
    exact ⟨_, (odv_rep hT hx hl).scI⟩
  · cases h

/-- The bounds of a slice expression. -/
def rsvO : Option Operand → Option (Option Od)
  | none => some none
  | some x => (rsvOd x).map some


theorem rsvO_cases {H : Hp} {ρ : Rho} {w : World} {tm : Tm} {a : Act} (hT : TRep H ρ w tm a) {d : Int} {x : Option Operand} {x' : Option Od} {n : Int} (hx : rsvO x = some x') (h : ob tm d x' = some n) :
    (x = none ∧ n = d) ∨ ∃ y, x = some y ∧ ∃ k, a.eval y = .int k n := by
  cases x with
  | none =>
    simp only [rsvO, Option.some.injEq] at hx
    subst hx
    simp only [ob, Option.some.injEq] at h
    exact .inl ⟨rfl, h.symm⟩
  | some y =>
    simp only [rsvO] at hx
    cases hq : rsvOd y with
    | none => simp [hq] at hx
    | some z =>
      simp only [hq, Option.map_some, Option.some.injEq] at hx
      subst hx
      exact .inr ⟨y, rfl, ob_rep hT hq h⟩

theorem sliceBound_run (P : Program) (w : World) (k : IntKind) (n : Int) (y : Nat) (c : BoundsCode) (h0 : 0 ≤ n) (h1 : n ≤ (y : Int)) : (Instr.sliceBound (.int k n) y c).run P w = .ok n.toNat w := by
  simp only [Instr.sliceBound, asIntOf, Sem.run_bind, Sem.run_pure, Result.andThen_ok]
  rw [if_pos ⟨h0, h1⟩]
  rfl

theorem bounds_run {P : Program} {H : Hp} {ρ : Rho} {w : World} {tm : Tm} {a : Act} (hT : TRep H ρ w tm a) (isS : Bool) (len cap : Nat) (hlc : len ≤ cap) {lo hi : Option Operand} {lo' hi' : Option Od} (h1 : rsvO lo = some lo') (h2 : rsvO hi = some hi') {l h : Int}
    (e1 : ob tm 0 lo' = some l) (e2 : ob tm len hi' = some h) (b1 : 0 ≤ l) (b2 : l ≤ h) (b3 : h ≤ len) :
    (Instr.sliceBounds isS len cap (lo.map a.eval) (hi.map a.eval) none).run P w = .ok (l.toNat, h.toNat, cap) w := by
  unfold Instr.sliceBounds
  rcases rsvO_cases hT h1 e1 with ⟨rfl, rfl⟩ | ⟨x, rfl, kx, hx⟩ <;> rcases rsvO_cases hT h2 e2 with ⟨rfl, rfl⟩ | ⟨y, rfl, ky, hy⟩
  · simp
  · simp [hy, sliceBound_run P w _ h cap _ (by omega) (by omega)]
  · simp [hx, sliceBound_run P w _ l len _ b1 (by omega)]
  · have hb := sliceBound_run P w kx l h.toNat .sliceB b1 (by omega)
    simp [hx, hy, sliceBound_run P w _ h cap _ (by omega) (by omega), hb]

theorem sound_sslice (P : Program) (t : TypeId) (ht : P.underlying t = some .string) (x : Operand) (x' : Od) (hx : rsvOd x = some x') (lo hi : Option Operand) (lo' hi' : Option Od) (h1 : rsvO lo = some lo') (h2 : rsvO hi = some hi') :
    Sound P (.slice t x lo hi none) (.sslice x' lo' hi') := by
  intro H ρ w tm a o r ho hT hH hr hp
  simp only [aop] at hr
  split at hr
  · rename_i s hl
    have e := (odv_rep hT hx hl).scI
    split at hr
    · rename_i l h e1 e2
      simp only [Option.some.injEq] at hr
      subst hr
      obtain ⟨b1, b2, b3⟩ : 0 ≤ l ∧ l ≤ h ∧ h ≤ s.size := hp
      have hb := bounds_run (P := P) hT false s.size s.size (Nat.le_refl _) h1 h2 e1 e2 b1 b2 b3
      refine sound_plain hH ?_ rfl
      simp only [execOp, ho, e, Instr.sliceAt, Sem.run_bind, run_underlying ht, Result.andThen_ok, Instr.slice, Option.map_none, Option.isSome_none, Bool.false_eq_true, if_false, hb, Sem.run_pure]
    · cases hr
  · cases hr
end Go.Av

namespace Go.Av
open Go.RowKit

/-! ### fills -/
theorem fill_one (cells : Array Value) (off : Nat) (vs : Array Value) (h : off + vs.size ≤ cells.size) (k : Nat) :
    (vs.zipIdx.foldl (fun cs (c, j) => cs.setIfInBounds (off + j) c) cells)[k]? = if off ≤ k ∧ k < off + vs.size then vs[k - off]? else cells[k]? := by
  have key : ∀ (l : List Value) (n : Nat) (cs : Array Value), off + n + l.length ≤ cs.size →
      ((l.zipIdx n).foldl (fun cs (c, j) => cs.setIfInBounds (off + j) c) cs)[k]? = if off + n ≤ k ∧ k < off + n + l.length then l[k - (off + n)]? else cs[k]? := by
    intro l
    induction l with
    | nil => intro n cs _; simp; omega
    | cons x r ih =>
      intro n cs hl
      simp only [List.length_cons] at hl
      simp only [List.zipIdx_cons, List.foldl_cons, List.length_cons]
      rw [ih (n + 1) _ (by simp; omega)]
      by_cases h1 : off + (n + 1) ≤ k ∧ k < off + (n + 1) + r.length
      · rw [if_pos h1, if_pos (by omega)]
        obtain ⟨m, hm⟩ : ∃ m, k - (off + n) = m + 1 := ⟨k - (off + n) - 1, by omega⟩
        have : k - (off + (n + 1)) = m := by omega
        rw [hm, this]; simp
      · rw [if_neg h1]
        by_cases h2 : k = off + n
        · subst h2
          rw [if_pos (by omega)]
          have : off + n < cs.size := by omega
          simp [this]
        · rw [if_neg (by omega), Array.getElem?_setIfInBounds_ne (by omega)]
  have h3 := key vs.toList 0 cells (by simpa using h)
  simp only [Nat.add_zero] at h3
  rw [← Array.foldl_toList, Array.toList_zipIdx]
  simpa using h3

theorem foldl_size (off : Nat) (l : List (Value × Nat)) : ∀ cells : Array Value, (l.foldl (fun cs (c, j) => cs.setIfInBounds (off + j) c) cells).size = cells.size := by
  induction l with
  | nil => simp
  | cons x r ih => intro cells; simp [ih]

/-- Cells that stand for cells. -/
def CRep (H : Hp) (ρ : Rho) (w : World) (l : List AV) (vs : Array Value) : Prop :=
  vs.size = l.length ∧ ∀ (i : Nat) (x : AV), l[i]? = some x → ∃ u, vs[i]? = some u ∧ ARep H ρ w x u

theorem fill_step {H : Hp} {ρ : Rho} {w : World} {l : List AV} {cells : Array Value} (hc : CRep H ρ w l cells) {xs : List AV} {v : Value} (hv : CRep H ρ w xs v.cells) (off : Nat) (hfit : off + xs.length ≤ l.length) :
    CRep H ρ w (over l off xs) (v.cells.zipIdx.foldl (fun cs (c, j) => cs.setIfInBounds (off + j) c) cells) := by
  obtain ⟨h1, h2⟩ := hc
  obtain ⟨h3, h4⟩ := hv
  refine ⟨?_, fun i x hx => ?_⟩
  · rw [over_length, ← Array.foldl_toList, foldl_size, h1]
  · rw [over_get l off xs hfit] at hx
    rw [fill_one cells off v.cells (by omega)]
    split at hx
    · rw [if_pos (by omega)]
      exact h4 _ _ hx
    · rw [if_neg (by omega)]
      exact h2 _ _ hx

theorem LRep.crep {H : Hp} {ρ : Rho} {w : World} {lv : LV} {v : Value} (h : LRep H ρ w lv v) (h0 : 0 < lv.cells.length) : CRep H ρ w lv.cells v.cells := h.cellsRep h0

/-- The parts of a struct's value: their places told. -/
inductive RParts (pl : Nat → Option (Nat × Nat)) : List (Nat × Operand) → List (Nat × Nat × Od) → Prop
  | nil : RParts pl [] []
  | cons (i : Nat) (x : Operand) (off sz : Nat) (y : Od) (r : List (Nat × Operand)) (r' : List (Nat × Nat × Od)) (h : pl i = some (off, sz)) (h0 : 0 < sz) (hx : rsvOd x = some y) (hr : RParts pl r r') : RParts pl ((i, x) :: r) ((off, sz, y) :: r')

theorem fill_rep {H : Hp} {ρ : Rho} {w : World} {tm : Tm} {a : Act} (hT : TRep H ρ w tm a) {pl : Nat → Option (Nat × Nat)} {n : Nat} (hpl : ∀ i off sz, pl i = some (off, sz) → off + sz ≤ n) {ps : List (Nat × Operand)} {ps' : List (Nat × Nat × Od)} (hp : RParts pl ps ps') :
    ∀ (l l' : List AV) (cells : Array Value), l.length = n → CRep H ρ w l cells → bparts tm ps' l = some l' → ∃ cells', Instr.fill pl cells (ps.map fun (i, x) => (i, a.eval x)) = some cells' ∧ CRep H ρ w l' cells' := by
  induction hp with
  | nil =>
    intro l l' cells hn hc hb
    simp only [bparts, Option.some.injEq] at hb
    subst hb
    exact ⟨cells, rfl, hc⟩
  | cons i x off sz y r r' h h0 hx hr ih =>
    intro l l' cells hn hc hb
    simp only [bparts] at hb
    split at hb
    · rename_i v hv
      split at hb
      · rename_i hlen
        have hcr := (odv_rep hT hx hv).crep (by omega)
        have hfit := hpl i off sz h
        have hs := fill_step hc hcr off (by omega)
        obtain ⟨cells', h1, h2⟩ := ih _ l' _ (by rw [over_length]; exact hn) hs hb
        refine ⟨cells', ?_, h2⟩
        simp only [List.map_cons, Instr.fill, h]
        rw [if_neg]
        · exact h1
        · have e1 := hcr.1
          have e2 := hc.1
          simp only [ne_eq, Bool.or_eq_true, decide_eq_true_eq, not_or]
          omega
      · cases hb
    · cases hb

theorem zero_crep {H : Hp} {ρ : Rho} {w : World} (z : Array Value) (h1 : ∀ v ∈ z.toList, v.oneCell' = true) : CRep H ρ w (z.toList.map sct) z := by
  refine ⟨by simp, fun i x hx => ?_⟩
  simp only [List.getElem?_map] at hx
  cases hq : z.toList[i]? with
  | none => simp [hq] at hx
  | some u =>
    simp only [hq, Option.map_some, Option.some.injEq] at hx
    subst hx
    exact ⟨u, by simpa using hq, .iv _ _ (.sc _ (h1 u (List.mem_of_getElem? hq)))⟩

theorem CRep.agg {H : Hp} {ρ : Rho} {w : World} {l : List AV} {vs : Array Value} (h : CRep H ρ w l vs) : LRep H ρ w (.agg l) (.agg vs) := by
  refine .agg l vs (fun i => (vs[i]?).getD undef) h.1 (fun i x hx => ?_) (fun i x hx => ?_)
  · obtain ⟨u, hu, _⟩ := h.2 i x hx
    simp [hu]
  · obtain ⟨u, hu, hr⟩ := h.2 i x hx
    simpa [hu] using hr

theorem mapM_places (P : Program) (fs : List Field) (f : Field → Nat) (hsz : ∀ x ∈ fs, (P.info? x.type).map (·.size) = some (f x)) (w : World) :
    (fs.mapM (fun x => (do pure (x.offset, ← sizeOf x.type) : Sem (Nat × Nat)))).run P w = .ok (fs.map fun x => (x.offset, f x)) w := by
  induction fs with
  | nil => rfl
  | cons x r ih =>
    have hx := hsz x (by simp)
    cases hq : P.info? x.type with
    | none => simp [hq] at hx
    | some i =>
      simp only [hq, Option.map_some, Option.some.injEq] at hx
      have hs : (sizeOf x.type).run P w = .ok (f x) w := by simp [sizeOf, typeInfo, hq, hx]
      simp only [List.mapM_cons, Sem.run_bind, hs, Result.andThen_ok, Sem.run_pure, ih (fun y hy => hsz y (by simp [hy])), List.map_cons]

theorem sound_build (P : Program) (t : TypeId) (i : TypeInfo) (z : Value) (fs : Array Field) (f : Field → Nat) (ht : P.underlying t = some (.struct fs)) (hi : P.info? t = some i) (hz : i.zero = some z)
    (h1 : ∀ v ∈ z.cells.toList, v.oneCell' = true) (hsz : ∀ x ∈ fs.toList, (P.info? x.type).map (·.size) = some (f x))
    (hfit : ∀ (k off sz : Nat), (fs.toList.map fun x => (x.offset, f x))[k]? = some (off, sz) → off + sz ≤ z.cells.toList.length)
    (ps : Array (Nat × Operand)) (ps' : List (Nat × Nat × Od)) (hp : RParts (fun k => (fs.toList.map fun x => (x.offset, f x))[k]?) ps.toList ps') : Sound P (.build t ps) (.build z.cells.toList ps') := by
  intro H ρ w tm a o r ho hT hH hr hpre
  simp only [aop] at hr
  split at hr
  · rename_i cs hcs
    simp only [Option.some.injEq] at hr
    subst hr
    obtain ⟨cells', h2, h3⟩ := fill_rep hT hfit hp (z.cells.toList.map sct) cs z.cells (by simp) (zero_crep z.cells h1) hcs
    refine ⟨_, .agg cells', w, ρ, ?_, .inl rfl, h3.agg, hH, Ext.refl _ _ _⟩
    have hm := mapM_places P fs.toList f hsz w
    have hm' : (fs.mapM (fun x => (do pure (x.offset, ← sizeOf x.type) : Sem (Nat × Nat)))).run P w = .ok (fs.toList.map fun x => (x.offset, f x)).toArray w := by
      have e : fs = fs.toList.toArray := by simp
      rw [e, List.mapM_toArray]
      simp only [List.toList_toArray, Sem.run_map, hm, Result.andThen_ok]
    simp only [execOp, ho, Instr.build, Sem.run_bind, zeroValue, typeInfo, run_program, hi, hz, Result.andThen_ok, Sem.run_pure, run_underlying ht, hm']
    have e : ((ps.map fun (i, x) => (i, a.eval x)).toList) = ps.toList.map fun (i, x) => (i, a.eval x) := by simp
    rw [e]
    have e2 : (fun (k : Nat) => (fs.toList.map fun x => (x.offset, f x)).toArray[k]?) = (fun (k : Nat) => (fs.toList.map fun x => (x.offset, f x))[k]?) := by funext k; simp
    rw [e2, h2]
    simp
  · cases hr


/-! ### slices -/
inductive RSeq : Nat → List (Nat × Operand) → List Od → Prop
  | nil (n : Nat) : RSeq n [] []
  | cons (n : Nat) (x : Operand) (y : Od) (r : List (Nat × Operand)) (r' : List Od) (hx : rsvOd x = some y) (hr : RSeq (n + 1) r r') : RSeq n ((n, x) :: r) (y :: r')

/-- Rows that stand for a slice's cells. -/
def RowsRep (H : Hp) (ρ : Rho) (w : World) (sz : Nat) (n : Nat) (rows : List (List AV)) (cs : Array Value) : Prop :=
  ∀ (i : Nat) (row : List AV) (j : Nat) (x : AV), rows[i]? = some row → row[j]? = some x → ∃ u, cs[(n + i) * sz + j]? = some u ∧ ARep H ρ w x u

theorem bslice_fill {H : Hp} {ρ : Rho} {w : World} {tm : Tm} {a : Act} (hT : TRep H ρ w tm a) (sz : Nat) (h0 : 0 < sz) {ps : List (Nat × Operand)} {xs : List Od} {n : Nat} (hp : RSeq n ps xs) :
    ∀ (rows : List (List AV)) (cells : Array Value), brows tm sz xs = some rows → (n + xs.length) * sz ≤ cells.size →
      rows.length = xs.length ∧ (∀ (i : Nat) (row : List AV), rows[i]? = some row → row.length = sz) ∧
      ∃ cells', Instr.fill (fun i => some (i * sz, sz)) cells (ps.map fun (i, x) => (i, a.eval x)) = some cells' ∧ cells'.size = cells.size ∧ (∀ k, k < n * sz → cells'[k]? = cells[k]?) ∧ RowsRep H ρ w sz n rows cells' := by
  induction hp with
  | nil n =>
    intro rows cells hb hl
    simp only [brows, Option.some.injEq] at hb
    subst hb
    exact ⟨rfl, by simp, cells, rfl, rfl, fun _ _ => rfl, fun i row j x h => by simp at h⟩
  | cons n x y r r' hx hr ih =>
    intro rows cells hb hl
    simp only [brows] at hb
    split at hb
    · rename_i v rs hv hrs
      split at hb
      · rename_i hlen
        simp only [Option.some.injEq] at hb
        subst hb
        have hcr := (odv_rep hT hx hv).crep (by omega)
        have hsz : (a.eval x).cells.size = sz := by rw [hcr.1, hlen]
        simp only [List.length_cons] at hl
        have hmul : (n + (r'.length + 1)) * sz = n * sz + sz + r'.length * sz := by simp [Nat.add_mul]; omega
        have hmul2 : (n + 1 + r'.length) * sz = n * sz + sz + r'.length * sz := by simp [Nat.add_mul]
        have hsf : ((a.eval x).cells.zipIdx.foldl (fun cs (c, j) => cs.setIfInBounds (n * sz + j) c) cells).size = cells.size := by rw [← Array.foldl_toList, foldl_size]
        obtain ⟨l1, l2, cells', h1, h2, h3, h4⟩ := ih rs ((a.eval x).cells.zipIdx.foldl (fun cs (c, j) => cs.setIfInBounds (n * sz + j) c) cells) hrs (by rw [hsf]; omega)
        have hfo := fill_one cells (n * sz) (a.eval x).cells (by omega)
        refine ⟨by simp [l1], fun i row hrow => ?_, cells', ?_, by rw [h2, hsf], fun k hk => ?_, fun i row j z hrow hz => ?_⟩
        · rcases i with _ | i
          · simp at hrow; subst hrow; exact hlen
          · exact l2 i row (by simpa using hrow)
        · simp only [List.map_cons, Instr.fill]
          rw [if_neg]
          · exact h1
          · simp only [ne_eq, Bool.or_eq_true, decide_eq_true_eq, not_or]
            omega
        · rw [h3 k (by rw [Nat.add_mul]; omega), hfo, if_neg (by omega)]
        · rcases i with _ | i
          · simp at hrow
            subst hrow
            obtain ⟨u, hu, hr'⟩ := hcr.2 j z hz
            have hj : j < sz := by
              have := (List.getElem?_eq_some_iff.1 hz).1
              omega
            refine ⟨u, ?_, hr'⟩
            rw [Nat.add_zero, h3 _ (by rw [Nat.add_mul]; omega), hfo, if_pos (by omega)]
            have : n * sz + j - n * sz = j := by omega
            rw [this]; exact hu
          · obtain ⟨u, hu, hr'⟩ := h4 i row j z (by simpa using hrow) hz
            refine ⟨u, ?_, hr'⟩
            have : n + (i + 1) = n + 1 + i := by omega
            rw [this]; exact hu
      · cases hb
    · cases hb

theorem ivrows_get : ∀ {rows : List (List AV)} {rs : List (List IV)}, ivrows rows = some rs → rows = rs.map fun r => r.map .iv
  | [], rs, h => by simp [ivrows] at h; subst h; rfl
  | x :: r, rs, h => by
    simp only [ivrows] at h
    split at h
    · rename_i y ys hy hys
      simp only [Option.some.injEq] at h
      subst h
      rw [ivs_get hy, ivrows_get hys]; rfl
    · cases h

/-- Cells of a new block that nobody writes are a slice that stays. -/
theorem sl_of_block {H : Hp} {ρ : Rho} {w : World} {rs : List (List IV)} {cs : Array Value} {e : TypeId} {fz : Nat × Nat} {g o sz cap : Nat} (hsz : ∀ (i : Nat) (row : List IV), rs[i]? = some row → row.length = sz)
    (hlen : rs.length ≤ 140737488355328) (hcap : rs.length ≤ cap) (hg : w.heap[g]? = some (.cells cs e fz)) (hm : ¬ Mut H.bs ρ g) (A : Option Addr) (hA : 0 < rs.length → A = some ⟨g, o, none⟩)
    (hr : ∀ (i : Nat) (row : List IV) (j : Nat) (x : IV), rs[i]? = some row → row[j]? = some x → ∃ u, cs[o + i * sz + j]? = some u ∧ IRep (Mut H.bs ρ) w x u) :
    IRep (Mut H.bs ρ) w (.sl sz rs) (.slice A rs.length cap) := by
  refine .sl sz rs A cap g o (fun j i => (cs[o + j * sz + i]?).getD undef) hsz hlen hcap (fun hp => ⟨hA hp, hm, ?_⟩) (fun j row i x h1 h2 => ?_) (fun j row i x h1 h2 => ?_)
  · exact (Array.getElem?_eq_some_iff.1 hg).1
  · obtain ⟨u, hu, _⟩ := hr j row i x h1 h2
    simp only [hu, Option.getD_some]
    exact get_of_cells hg hu
  · obtain ⟨u, hu, hh⟩ := hr j row i x h1 h2
    simpa [hu] using hh

theorem sound_bslice (P : Program) (imm : Bool) (t e : TypeId) (i : TypeInfo) (z : Value) (ht : P.underlying t = some (.slice e)) (hi : P.info? e = some i) (hz : i.zero = some z) (h0 : 0 < i.size) (hzs : z.cells.size = i.size)
    (n : Nat) (ps : Array (Nat × Operand)) (xs : List Od) (hps : RSeq 0 ps.toList xs) (hn : xs.length = n) (hlim : n * i.size ≤ 16777216) : Sound P (.buildSlice t n ps) (.bslice imm i.size xs) := by
  subst hn
  generalize hnn : xs.length = n at *
  intro H ρ w tm a o r ho hT hH hr hpre
  simp only [aop] at hr
  split at hr
  · rename_i rows hrows
    have hzc : (if n * i.size = 0 then pure #[] else do pure (← zeroValue e).cells : Sem (Array Value)).run P w = .ok (if n * i.size = 0 then #[] else z.cells) w := by
      split <;> simp [zeroValue, typeInfo, hi, hz]
    obtain ⟨l1, l2, cells', h1, h2, h3, h4⟩ := bslice_fill hT i.size h0 hps rows (((Array.range (n * i.size)).map ((if n * i.size = 0 then (#[] : Array Value) else z.cells)[· % (if n * i.size = 0 then (#[] : Array Value) else z.cells).size]!))) hrows (by simp [hnn])
    have hsize : cells'.size = n * i.size := by rw [h2]; simp
    have hrun : (execOp a.eval o).run P w = .ok (.value (.slice (some ⟨w.heap.size, 0, none⟩) n n)) (w.alloc (.cells cells' e)) := by
      have hlt : ¬ n * i.size > 2 ^ 24 := by omega
      have e1 : ((ps.map fun (i, x) => (i, a.eval x)).toList) = ps.toList.map fun (i, x) => (i, a.eval x) := by simp
      have hfst : (ps.map fun (p : Nat × Operand) => (p.1, a.eval p.2)).toList = ps.toList.map fun (p : Nat × Operand) => (p.1, a.eval p.2) := by simp
      by_cases hz0 : n * i.size = 0
      · have hn0 : n = 0 := by
          rcases Nat.eq_zero_or_pos n with h | h
          · exact h
          · have := Nat.mul_pos h h0; omega
        have hxs : xs = [] := List.eq_nil_of_length_eq_zero (by omega)
        subst hxs
        have hps0 : ps.toList = [] := by
          generalize hq : ps.toList = q at hps
          cases hps; rfl
        simp only [hz0, if_true, hps0, List.map_nil, Instr.fill, Option.some.injEq] at h1
        subst h1
        simp only [execOp, ho, Instr.buildSlice, Sem.run_bind, run_underlying ht, Result.andThen_ok, sizeOf, typeInfo, run_program, hi, Sem.run_pure, hz0, if_true, if_false, hfst, hps0, newRow, run_newObj, World.alloc_eq]
        simp [Instr.fill]
      · simp only [hz0, if_false] at h1
        simp only [execOp, ho, Instr.buildSlice, Sem.run_bind, run_underlying ht, Result.andThen_ok, sizeOf, typeInfo, run_program, hi, Sem.run_pure, if_neg hlt, hz0, if_false, zeroValue, hz, hfst, h1, newRow, run_newObj, World.alloc_eq]
    split at hr
    · split at hr
      · rename_i rs hrs
        simp only [Option.some.injEq] at hr
        subst hr
        have hrs' := ivrows_get hrs
        have hl : rs.length = n := by rw [hrs'] at l1; simpa [hnn] using l1
        refine ⟨_, _, _, ρ, hrun, .inl rfl, ?_, hH.alloc _, ext_alloc _⟩
        rw [← hl]
        refine .one _ _ (.iv _ _ (sl_of_block (sz := i.size) (o := 0) (fun k row hk => ?_) (by rw [hl]; have : n ≤ n * i.size := Nat.le_mul_of_pos_right n h0; omega) (Nat.le_refl _) (heap_alloc_new w _) (not_mut_new hH) _ (fun _ => rfl) (fun k row j x hk hx => ?_)))
        · have := l2 k (row.map .iv) (by rw [hrs']; simp [hk])
          simpa using this
        · obtain ⟨u, hu, hr⟩ := h4 k (row.map .iv) j (.iv x) (by rw [hrs']; simp [hk]) (by simp [hx])
          exact ⟨u, by simpa using hu, (hr.keep (ext_alloc _)).ivR⟩
      · cases hr
    · simp only [Option.some.injEq] at hr
      subst hr
      have hle : n ≤ n * i.size := Nat.le_mul_of_pos_right n h0
      obtain ⟨hH', e'⟩ := new_cells hH (.cells cells' e) (.cells i.size 0 rows false) ⟨w.heap.size, 0, n, false⟩ (fun _ => rfl) (fun H' ρ' e' => by
        refine ⟨l2, h0, by simp [l1, hnn], by rw [l1, hnn]; omega, by simp, fun _ => ⟨cells', e, heap_alloc_new w _, by simp [hsize], fun k row j x hk hx => ?_⟩⟩
        obtain ⟨u, hu, hr⟩ := h4 k row j x hk hx
        exact ⟨u, by simpa using hu, hr.keep e'⟩)
      refine ⟨_, _, _, _, hrun, .inl rfl, .one _ _ ?_, hH', e'⟩
      have := ARep.mkOwn (H := H.new (.cells i.size 0 rows false)) (ρ := ρ.set H.nxt ⟨w.heap.size, 0, n, false⟩) (w := w.alloc (.cells cells' e)) (b := H.nxt) (off := 0) (len := rows.length) (sz := i.size) (ver := 0) (rows := rows) (fz := false)
        (by simp [Hp.new]) (by simp [Hp.new, Bs.get_cons]) (some ⟨w.heap.size, 0, none⟩) n (by simp) (by rw [l1, hnn]; exact Nat.le_refl _) (by simp)
      rw [show rows.length = n from by rw [l1, hnn]] at this ⊢
      exact this
  · cases hr


theorem live_get {H : Hp} {b ver : Nat} (h : H.live b ver = true) : ∃ sz rows fz, H.bs.get b = some (.cells sz ver rows fz) := by
  unfold Hp.live at h
  split at h
  · rename_i sz v rows fz hg
    simp only [beq_iff_eq] at h
    subst h
    exact ⟨sz, rows, fz, hg⟩
  · cases h

theorem LRep.ownI {H : Hp} {ρ : Rho} {w : World} {b ver off len : Nat} {v : Value} (h : LRep H ρ w (.one (.own b ver off len)) v) {sz : Nat} {rows : List (List AV)} {fz : Bool} (hg : H.bs.get b = some (.cells sz ver rows fz)) :
    off + len ≤ rows.length ∧ ∃ A c, v = .slice A len c ∧ len ≤ c ∧ (0 < c → off + c = (ρ b).cap ∧ A = some ⟨(ρ b).g, (ρ b).o + off * sz, none⟩) := by
  cases h with
  | one _ _ h => cases h with
    | own _ _ _ _ _ _ _ h => exact (h sz ver rows fz hg).2 rfl

theorem LRep.slI {H : Hp} {ρ : Rho} {w : World} {s : Nat} {rows : List (List IV)} {v : Value} (h : LRep H ρ w (.one (.iv (.sl s rows))) v) :
    ∃ A cap, v = .slice A rows.length cap ∧ rows.length ≤ cap ∧ rows.length ≤ 140737488355328 := by
  cases h with
  | one _ _ h => cases h with
    | iv _ _ h => cases h with
      | sl _ _ A cap g o cv h1 h2 h3 => exact ⟨A, cap, rfl, h3, h2⟩


theorem len_run (P : Program) (w : World) (t : TypeId) (a : Act) (o : Oper) (x : Operand) (ho : o.op = .call { callee := .builtin .len, args := #[x], argTypes := #[t] }) :
    (execOp a.eval o).run P w = ((Builtin.len_ #[t] o.type #[a.eval x]).run P w).andThen fun v w' => .ok (.value v) w' := by
  simp [execOp, ho, resolve, invoke, builtin]

/-- The length. -/
theorem sound_len (P : Program) (t e : TypeId) (ht : P.underlying t = some (.slice e)) (x : Operand) (x' : Od) (hx : rsvOd x = some x') :
    Sound P (.call { callee := .builtin .len, args := #[x], argTypes := #[t] }) (.len x') := by
  intro H ρ w tm a o r ho hT hH hr hp
  have hrun : ∀ A n c, a.eval x = .slice A n c → (execOp a.eval o).run P w = .ok (.value (.int .i64 n)) w := by
    intro A n c hev
    rw [len_run P w t a o x ho, hev]
    simp [Builtin.len_, run_underlying ht, goInt]
  simp only [aop] at hr
  split at hr
  · rename_i lv hl
    split at hr
    · rename_i n hn
      simp only [Option.some.injEq] at hr
      subst hr
      have hrep := odv_rep hT hx hl
      unfold alen at hn
      split at hn
      · simp only [Option.some.injEq] at hn
        subst hn
        obtain ⟨A, c, hev, _⟩ := hrep.slI
        exact sound_plain hH (hrun _ _ _ hev) rfl
      · split at hn
        · rename_i hlive
          simp only [Option.some.injEq] at hn
          subst hn
          obtain ⟨sz, rows, fz, hg⟩ := live_get hlive
          obtain ⟨_, A, c, hev, _⟩ := hrep.ownI hg
          exact sound_plain hH (hrun _ _ _ hev) rfl
        · cases hn
      · simp only [Option.some.injEq] at hn
        subst hn
        exact sound_plain hH (hrun _ _ _ hrep.scI) rfl
      · cases hn
    · cases hr
  · cases hr

theorem sound_slen (P : Program) (t : TypeId) (ht : P.underlying t = some .string) (x : Operand) (x' : Od) (hx : rsvOd x = some x') :
    Sound P (.call { callee := .builtin .len, args := #[x], argTypes := #[t] }) (.slen x') := by
  intro H ρ w tm a o r ho hT hH hr hp
  simp only [aop] at hr
  split at hr
  · rename_i s hl
    have e := (odv_rep hT hx hl).scI
    simp only [Option.some.injEq] at hr
    subst hr
    refine sound_plain hH ?_ rfl
    rw [len_run P w t a o x ho, e]
    simp [Builtin.len_, run_underlying ht, goInt]
  · cases hr

theorem sound_min (P : Program) (ts : Array TypeId) (x y : Operand) (x' y' : Od) (hx : rsvOd x = some x') (hy : rsvOd y = some y') :
    Sound P (.call { callee := .builtin .min, args := #[x, y], argTypes := ts }) (.min x' y') := by
  intro H ρ w tm a o r ho hT hH hr hp
  simp only [aop] at hr
  split at hr
  · rename_i k m k' n hla hlb
    have e1 := (odv_rep hT hx hla).scI
    have e2 := (odv_rep hT hy hlb).scI
    simp only [Option.some.injEq] at hr
    subst hr
    exact sound_plain hH (by simp [execOp, ho, resolve, invoke, builtin, Builtin.min_, e1, e2, Builtin.min2]) rfl
  · cases hr

theorem sound_max (P : Program) (ts : Array TypeId) (x y : Operand) (x' y' : Od) (hx : rsvOd x = some x') (hy : rsvOd y = some y') :
    Sound P (.call { callee := .builtin .max, args := #[x, y], argTypes := ts }) (.max x' y') := by
  intro H ρ w tm a o r ho hT hH hr hp
  simp only [aop] at hr
  split at hr
  · rename_i k m k' n hla hlb
    have e1 := (odv_rep hT hx hla).scI
    have e2 := (odv_rep hT hy hlb).scI
    simp only [Option.some.injEq] at hr
    subst hr
    exact sound_plain hH (by simp [execOp, ho, resolve, invoke, builtin, Builtin.max_, e1, e2, Builtin.max2]) rfl
  · cases hr

theorem sound_sindex (P : Program) (t : TypeId) (ht : P.underlying t = some .string) (x y : Operand) (x' y' : Od) (hx : rsvOd x = some x') (hy : rsvOd y = some y') :
    Sound P (.index t x y) (.sindex x' y') := by
  intro H ρ w tm a o r ho hT hH hr hp
  simp only [aop] at hr
  split at hr
  · rename_i s kk n hla hlb
    have e1 := (odv_rep hT hx hla).scI
    have e2 := (odv_rep hT hy hlb).scI
    split at hr
    · rename_i c hc
      simp only [Option.some.injEq] at hr
      subst hr
      have hp : 0 ≤ n := hp
      refine sound_plain hH ?_ rfl
      simp [execOp, ho, e1, e2, Instr.index, asIntOf, run_underlying ht, hp, hc]
    · cases hr
  · cases hr

theorem sound_mkfn (P : Program) (f : Fn) (caps : Array Operand) (caps' : List Od) (hc : rsvOds caps.toList = some caps') : Sound P (.makeFunc f #[] caps) (.mkfn f caps') := by
  intro H ρ w tm a o r ho hT hH hr hp
  simp only [aop] at hr
  split at hr
  · rename_i l hl
    split at hr
    · rename_i cs hcs
      simp only [Option.some.injEq] at hr
      subst hr
      have key : ∀ (xs : List Operand) (ys : List Od) (ls : List LV) (as : List AV), rsvOds xs = some ys → odvs tm ys = some ls → ones ls = some as →
          as.length = xs.length ∧ ∀ (i : Nat) (x : AV), as[i]? = some x → ∃ y, xs[i]? = some y ∧ ARep H ρ w x (a.eval y) := by
        intro xs
        induction xs with
        | nil =>
          intro ys ls as h1 h2 h3
          simp only [rsvOds, Option.some.injEq] at h1
          subst h1
          simp only [odvs, Option.some.injEq] at h2
          subst h2
          simp only [ones, Option.some.injEq] at h3
          subst h3
          simp
        | cons x xs ih =>
          intro ys ls as h1 h2 h3
          simp only [rsvOds] at h1
          split at h1
          · rename_i y ys' hy hys
            simp only [Option.some.injEq] at h1
            subst h1
            simp only [odvs] at h2
            split at h2
            · rename_i u us hu hus
              simp only [Option.some.injEq] at h2
              subst h2
              simp only [ones] at h3
              split at h3
              · rename_i q qs hq hqs
                simp only [Option.some.injEq] at h3
                subst h3
                obtain ⟨h4, h5⟩ := ih ys' us qs hys hus hqs
                refine ⟨by simp [h4], fun i z hz => ?_⟩
                rcases i with _ | i
                · simp at hz
                  subst hz
                  refine ⟨x, rfl, ?_⟩
                  have hrep := odv_rep hT hy hu
                  unfold one? at hq
                  split at hq
                  · simp only [Option.some.injEq] at hq
                    subst hq
                    cases hrep with
                    | one _ _ h => exact h
                  · cases hq
                · exact h5 i z (by simpa using hz)
              · cases h3
            · cases h2
          · cases h1
      obtain ⟨h4, h5⟩ := key caps.toList caps' l cs hc hl hcs
      refine ⟨_, .func f #[] (caps.map a.eval), w, ρ, by simp [execOp, ho, Instr.makeFunc], .inl rfl, ?_, hH, Ext.refl _ _ _⟩
      refine .one _ _ (.fn f cs (fun i => ((caps.map a.eval)[i]?).getD undef) _ (by simp [h4]) (fun i x hx => ?_) (fun i x hx => ?_))
      · obtain ⟨y, hy, _⟩ := h5 i x hx
        have hy' : caps[i]? = some y := by simpa using hy
        simp [hy']
      · obtain ⟨y, hy, hr⟩ := h5 i x hx
        have hy' : caps[i]? = some y := by simpa using hy
        simpa [hy'] using hr
    · cases hr
  · cases hr

/-! ### slices of slices, and their elements' places -/
theorem sound_slice (P : Program) (t e : TypeId) (i : TypeInfo) (ht : P.underlying t = some (.slice e)) (hi : P.info? e = some i) (x : Operand) (x' : Od) (hx : rsvOd x = some x') (lo hi' : Option Operand) (lo' hi'' : Option Od) (h1 : rsvO lo = some lo') (h2 : rsvO hi' = some hi'') :
    Sound P (.slice t x lo hi' none) (.slice i.size x' lo' hi'') := by
  intro H ρ w tm a o r ho hT hH hr hp
  have hrun : ∀ A n c l h, a.eval x = .slice A n c → n ≤ c → ob tm 0 lo' = some l → ob tm n hi'' = some h → 0 ≤ l → l ≤ h → h ≤ n →
      (execOp a.eval o).run P w = .ok (.value (.slice (if c = l.toNat then A else A.map (·.add (l.toNat * i.size))) (h.toNat - l.toNat) (c - l.toNat))) w := by
    intro A n c l h hev hnc e1 e2 b1 b2 b3
    have hb := bounds_run (P := P) hT true n c hnc h1 h2 e1 e2 b1 b2 b3
    simp only [execOp, ho, hev, Instr.sliceAt, Sem.run_bind, run_underlying ht, Result.andThen_ok, Instr.slice, Option.map_none, hb, Sem.run_pure, sizeOf, typeInfo, run_program, hi]
  simp only [aop] at hr
  split at hr
  · rename_i lv hl
    have hrep := odv_rep hT hx hl
    unfold aslice at hr
    split at hr
    · rename_i s rows
      split at hr
      · rename_i l h e1 e2
        simp only [Option.some.injEq] at hr
        subst hr
        obtain ⟨rfl, b1, b2, b3⟩ : s = i.size ∧ 0 ≤ l ∧ l ≤ h ∧ h ≤ rows.length := hp
        generalize hev : a.eval x = ev at hrep
        cases hrep with
        | one _ _ hrep => cases hrep with
          | iv _ _ hrep => cases hrep with
            | sl _ _ A cap g k cv k1 k2 k3 k4 k5 k6 =>
              refine ⟨_, _, w, ρ, hrun _ _ _ _ _ hev k3 e1 e2 b1 b2 b3, .inl rfl, .one _ _ (.iv _ _ ?_), hH, Ext.refl _ _ _⟩
              have hlen : ((rows.take h.toNat).drop l.toNat).length = h.toNat - l.toNat := by simp; omega
              rw [← hlen]
              have hget : ∀ (j : Nat) (row : List IV), ((rows.take h.toNat).drop l.toNat)[j]? = some row → rows[l.toNat + j]? = some row := by
                intro j row hj
                rw [List.getElem?_drop, List.getElem?_take] at hj
                split at hj
                · exact hj
                · cases hj
              have hadd : ∀ j q, k + l.toNat * i.size + j * i.size + q = k + (l.toNat + j) * i.size + q := by
                intro j q; rw [Nat.add_mul]; omega
              refine .sl _ _ _ _ g (k + l.toNat * i.size) (fun j q => cv (l.toNat + j) q) (fun j row hj => k1 _ _ (hget j row hj)) (by omega) (by omega) (fun hpos => ?_) (fun j row q z hj hq => ?_) (fun j row q z hj hq => k6 _ _ _ _ (hget j row hj) hq)
              · obtain ⟨rfl, hm, hlt⟩ := k4 (by omega)
                refine ⟨?_, hm, hlt⟩
                rw [if_neg (by omega)]
                simp [add_none]
              · rw [hadd]
                exact k5 _ _ _ _ (hget j row hj) hq
      · cases hr
    · rename_i b ver off len
      split at hr
      · rename_i hlive
        split at hr
        · rename_i l h e1 e2
          simp only [Option.some.injEq] at hr
          subst hr
          obtain ⟨b1, b2, b3⟩ : 0 ≤ l ∧ l ≤ h ∧ h ≤ len := hp
          unfold Hp.lives at hlive
          split at hlive
          · rename_i s v rows fz hg
            simp only [Bool.and_eq_true, beq_iff_eq] at hlive
            obtain ⟨rfl, rfl⟩ := hlive
            obtain ⟨m1, A, c, hev, m2, m4⟩ := hrep.ownI hg
            refine ⟨_, _, w, ρ, hrun _ _ _ _ _ hev m2 e1 e2 b1 b2 b3, .inl rfl, .one _ _ (ARep.mkOwn (hH.lt b _ hg) hg _ _ (by omega) (by omega) fun hpos => ?_), hH, Ext.refl _ _ _⟩
            obtain ⟨m5, m6⟩ := m4 (by omega)
            refine ⟨by omega, ?_⟩
            rw [m6, if_neg (by omega)]
            simp only [Option.map_some, add_none]
            rw [Nat.add_mul, Nat.add_assoc]
          · cases hlive
        · cases hr
      · cases hr
    · split at hr
      · rename_i l h e1 e2
        simp only [Option.some.injEq] at hr
        subst hr
        obtain ⟨rfl, rfl⟩ : l = 0 ∧ h = 0 := hp
        have hev := hrep.scI
        have := hrun none 0 0 0 0 hev (Nat.le_refl _) e1 e2 (by omega) (by omega) (by simp)
        exact sound_plain hH (by simpa using this) rfl
      · cases hr
    · cases hr
  · cases hr

theorem sound_iaddr (P : Program) (t e : TypeId) (i : TypeInfo) (ht : P.underlying t = some (.slice e)) (hi : P.info? e = some i) (x y : Operand) (x' y' : Od) (hx : rsvOd x = some x') (hy : rsvOd y = some y') :
    Sound P (.indexAddr t x y) (.iaddr i.size x' y') := by
  intro H ρ w tm a o r ho hT hH hr hp
  have hrun : ∀ A n c (k : IntKind) (j : Int) ad, a.eval x = .slice A n c → a.eval y = .int k j → 0 ≤ j → j < (n : Int) → A = some ad →
      (execOp a.eval o).run P w = .ok (.value (.pointer (some (ad.add (j.toNat * i.size))))) w := by
    intro A n c k j ad h1 h2 h3 h4 h5
    subst h5
    simp [execOp, ho, h1, h2, Instr.indexAt, asIntOf, run_underlying ht, h3, h4, sizeOf, typeInfo, hi]
  simp only [aop] at hr
  split at hr
  · rename_i la lb hla hlb
    have ra := odv_rep hT hx hla
    have rb := odv_rep hT hy hlb
    split at hr
    · rename_i p v hv
      simp only [Option.some.injEq] at hr
      subst hr
      have hp : p := hp
      unfold aiaddr at hv
      split at hv
      · rename_i s rows kj j
        split at hv
        · rename_i row hrow
          simp only [Option.some.injEq, Prod.mk.injEq] at hv
          obtain ⟨rfl, rfl⟩ := hv
          obtain ⟨rfl, hj⟩ := hp
          have hlt := (List.getElem?_eq_some_iff.1 hrow).1
          generalize hev : a.eval x = ev at ra
          cases ra with
          | one _ _ ra => cases ra with
            | iv _ _ ra => cases ra with
              | sl _ _ A cap g k cv k1 k2 k3 k4 k5 k6 =>
                obtain ⟨hA, hm, hl⟩ := k4 (by omega)
                refine ⟨_, _, w, ρ, hrun _ _ _ _ _ _ hev rb.scI hj (by omega) hA, .inl rfl, ?_, hH, Ext.refl _ _ _⟩
                rw [add_none]
                refine .one _ _ (.ip row 0 g _ (fun q => cv j.toNat q) hm hl (fun q z hq => k5 _ _ _ _ hrow hq) (fun q z hq => k6 _ _ _ _ hrow hq))
        · cases hv
      · rename_i b ver off len kj j
        split at hv
        · rename_i hlive
          simp only [Option.some.injEq, Prod.mk.injEq] at hv
          obtain ⟨rfl, rfl⟩ := hv
          obtain ⟨hj, hjl⟩ := hp
          unfold Hp.lives at hlive
          split at hlive
          · rename_i s v rows fz hg
            simp only [Bool.and_eq_true, beq_iff_eq] at hlive
            obtain ⟨rfl, rfl⟩ := hlive
            obtain ⟨m1, A, c, hev, m2, m4⟩ := ra.ownI hg
            have hA := (m4 (by omega)).2
            refine ⟨_, _, w, ρ, hrun _ _ _ _ _ _ hev rb.scI hj hjl hA, .inl rfl, ?_, hH, Ext.refl _ _ _⟩
            have := ARep.mkPtr (w := w) (i := off + j.toNat) (j := 0) (hH.lt b _ hg) hg (ρ := ρ)
            rw [add_none]
            rw [Nat.add_mul] at this
            simp only [Nat.add_zero, ← Nat.add_assoc] at this ⊢
            exact .one _ _ this
          · cases hlive
        · cases hv
      · cases hv
    · cases hr
  · cases hr
end Go.Av

namespace Go.Av
open Go.RowKit

/-- What is appended, in the world. -/
theorem src_rep {H : Hp} {ρ : Rho} {w : World} (hH : HRep H ρ w) {sz : Nat} {lv : LV} {news : List (List AV)} {v : Value} (ha : arows H sz lv = some news) (hr : LRep H ρ w lv v) :
    ∃ B c, v = .slice B news.length c ∧ (∀ (i : Nat) (row : List AV), news[i]? = some row → row.length = sz) ∧
      (0 < news.length → ∃ g k, B = some ⟨g, k, none⟩ ∧ ∀ (i : Nat) (row : List AV) (j : Nat) (x : AV), news[i]? = some row → row[j]? = some x → ∃ u, w.cell? ⟨g, k + i * sz + j, none⟩ = some u ∧ ARep H ρ w x u) := by
  unfold arows at ha
  split at ha
  · rename_i s rows
    split at ha
    · rename_i hs
      subst hs
      simp only [Option.some.injEq] at ha
      subst ha
      cases hr with
      | one _ _ hr => cases hr with
        | iv _ _ hr => cases hr with
          | sl _ _ A cap g k cv k1 k2 k3 k4 k5 k6 =>
            refine ⟨A, cap, by simp, fun i row hi => ?_, fun hpos => ?_⟩
            · simp only [List.getElem?_map] at hi
              cases hq : rows[i]? with
              | none => simp [hq] at hi
              | some r =>
                simp only [hq, Option.map_some, Option.some.injEq] at hi
                subst hi
                simpa using k1 i r hq
            · obtain ⟨hA, hm, hl⟩ := k4 (by simpa using hpos)
              refine ⟨g, k, hA, fun i row j x hi hj => ?_⟩
              simp only [List.getElem?_map] at hi
              cases hq : rows[i]? with
              | none => simp [hq] at hi
              | some r =>
                simp only [hq, Option.map_some, Option.some.injEq] at hi
                subst hi
                simp only [List.getElem?_map] at hj
                cases hq2 : r[j]? with
                | none => simp [hq2] at hj
                | some y =>
                  simp only [hq2, Option.map_some, Option.some.injEq] at hj
                  subst hj
                  exact ⟨_, k5 i r j y hq hq2, .iv _ _ (k6 i r j y hq hq2)⟩
    · cases ha
  · simp only [Option.some.injEq] at ha
    subst ha
    exact ⟨none, 0, hr.scI, by simp, by simp⟩
  · rename_i b ver off len
    split at ha
    · rename_i s v rows fz hg
      split at ha
      · rename_i hs
        obtain ⟨rfl, rfl⟩ := hs
        simp only [Option.some.injEq] at ha
        subst ha
        obtain ⟨m1, A, c, hev, m2, m4⟩ := hr.ownI hg
        have hlen : ((rows.drop off).take len).length = len := by simp; omega
        have hget : ∀ (i : Nat) (row : List AV), ((rows.drop off).take len)[i]? = some row → rows[off + i]? = some row := by
          intro i row hi
          rw [List.getElem?_take] at hi
          split at hi
          · simpa using hi
          · cases hi
        refine ⟨A, c, by rw [hlen]; exact hev, fun i row hi => ?_, fun hpos => ⟨(ρ b).g, (ρ b).o + off * s, (m4 (by omega)).2, fun i row j x hi hj => ?_⟩⟩
        · exact (row_cells hH hg (hget i row hi)).1
        · obtain ⟨u, h1, h2⟩ := (row_cells hH hg (hget i row hi)).2.2 j x hj
          refine ⟨u, ?_, h2⟩
          rw [Nat.add_mul, ← Nat.add_assoc] at h1
          exact h1
      · cases ha
    · cases ha
  · cases ha

/-- The cells in a row. -/
theorem flat_rep {H : Hp} {ρ : Rho} {w : World} {sz : Nat} (h0 : 0 < sz) {news : List (List AV)} (h1 : ∀ (i : Nat) (row : List AV), news[i]? = some row → row.length = sz) {g k : Nat}
    (h2 : ∀ (i : Nat) (row : List AV) (j : Nat) (x : AV), news[i]? = some row → row[j]? = some x → ∃ u, w.cell? ⟨g, k + i * sz + j, none⟩ = some u ∧ ARep H ρ w x u) :
    ∃ nl : List Value, nl.length = news.length * sz ∧ (∀ q u, nl[q]? = some u → w.cell? ((⟨g, k, none⟩ : Addr).add q) = some u) ∧ (∀ u ∈ nl, u.oneCell' = true) ∧
      ∀ (i : Nat) (row : List AV) (j : Nat) (x : AV), news[i]? = some row → row[j]? = some x → ∃ u, nl[i * sz + j]? = some u ∧ ARep H ρ w x u := by
  have key : ∀ q, q < news.length * sz → ∃ u x, w.cell? ⟨g, k + q, none⟩ = some u ∧ ARep H ρ w x u := by
    intro q hq
    have hi : q / sz < news.length := Nat.div_lt_of_lt_mul (by rw [Nat.mul_comm]; exact hq)
    have hj : q % sz < sz := Nat.mod_lt _ h0
    have hrow := List.getElem?_eq_getElem hi
    have hl := h1 _ _ hrow
    obtain ⟨u, hu, hr⟩ := h2 (q / sz) _ (q % sz) _ hrow (List.getElem?_eq_getElem (by omega))
    have e : k + q / sz * sz + q % sz = k + q := by
      have := Nat.div_add_mod q sz
      rw [Nat.mul_comm] at this; omega
    rw [e] at hu
    exact ⟨u, _, hu, hr⟩
  refine ⟨(List.range (news.length * sz)).map fun q => (w.cell? ⟨g, k + q, none⟩).getD undef, by simp, fun q u hq => ?_, fun u hu => ?_, fun i row j x hi hj => ?_⟩
  · rw [add_none]
    have hlt : q < news.length * sz := by
      have := (List.getElem?_eq_some_iff.1 hq).1
      simpa using this
    rw [List.getElem?_map] at hq
    obtain ⟨u', x, hu', _⟩ := key q hlt
    have : (List.range (news.length * sz))[q]? = some q := by simp [hlt]
    simp [this, hu'] at hq
    rw [hu', hq]
  · simp only [List.mem_map, List.mem_range] at hu
    obtain ⟨q, hq, rfl⟩ := hu
    obtain ⟨u', x, hu', hr⟩ := key q hq
    simp only [hu', Option.getD_some]
    exact hr.one
  · obtain ⟨u, hu, hr⟩ := h2 i row j x hi hj
    have hil := (List.getElem?_eq_some_iff.1 hi).1
    have hjl : j < sz := by
      have := (List.getElem?_eq_some_iff.1 hj).1
      rw [h1 i row hi] at this; exact this
    have hlt : i * sz + j < news.length * sz := by
      have : (i + 1) * sz ≤ news.length * sz := Nat.mul_le_mul_right _ (by omega)
      rw [Nat.add_mul] at this; omega
    refine ⟨u, ?_, hr⟩
    have : (List.range (news.length * sz))[i * sz + j]? = some (i * sz + j) := by simp [hlt]
    rw [List.getElem?_map, this]
    simp only [Option.map_some, Option.some.injEq]
    rw [← Nat.add_assoc, hu]; rfl

theorem append_run (P : Program) (w : World) (t : TypeId) (a : Act) (o : Oper) (x y : Operand) (ho : o.op = .call { callee := .builtin .append, args := #[x, y], argTypes := #[t, t] }) :
    (execOp a.eval o).run P w = ((Builtin.append_ #[t, t] o.type #[a.eval x, a.eval y]).run P w).andThen fun v w' => .ok (.value v) w' := by
  simp [execOp, ho, resolve, invoke, builtin]

theorem grown_cells (P : Program) {H : Hp} {ρ : Rho} {w : World} {sz : Nat} {olds news : List (List AV)} {ol nl : List Value} (z : Array Value) (n : Nat)
    (h1 : ol.length = olds.length * sz) (h2 : ∀ (i : Nat) (row : List AV) (j : Nat) (x : AV), olds[i]? = some row → row[j]? = some x → ∃ u, ol[i * sz + j]? = some u ∧ ARep H ρ w x u)
    (h3 : ∀ (i : Nat) (row : List AV) (j : Nat) (x : AV), news[i]? = some row → row[j]? = some x → ∃ u, nl[i * sz + j]? = some u ∧ ARep H ρ w x u)
    (h4 : nl.length = news.length * sz) (hs : ∀ (i : Nat) (row : List AV), olds[i]? = some row → row.length = sz) (hs' : ∀ (i : Nat) (row : List AV), news[i]? = some row → row.length = sz)
    (i : Nat) (row : List AV) (j : Nat) (x : AV) (hi : (olds ++ news)[i]? = some row) (hj : row[j]? = some x) (pre post : List Value) :
    ∃ u, (pre ++ (ol ++ nl ++ post)).toArray[pre.length + i * sz + j]? = some u ∧ ARep H ρ w x u := by
  have hjl := (List.getElem?_eq_some_iff.1 hj).1
  simp only [List.getElem?_toArray]
  rw [List.getElem?_append_right (by omega)]
  have e : pre.length + i * sz + j - pre.length = i * sz + j := by omega
  rw [e]
  by_cases hlt : i < olds.length
  · rw [List.getElem?_append_left hlt] at hi
    obtain ⟨u, hu, hr⟩ := h2 i row j x hi hj
    refine ⟨u, ?_, hr⟩
    have hll := (List.getElem?_eq_some_iff.1 hu).1
    rw [List.append_assoc, List.getElem?_append_left hll]
    exact hu
  · rw [List.getElem?_append_right (by omega)] at hi
    obtain ⟨u, hu, hr⟩ := h3 _ row j x hi hj
    refine ⟨u, ?_, hr⟩
    have hll := (List.getElem?_eq_some_iff.1 hu).1
    have e2 : i * sz + j = ol.length + ((i - olds.length) * sz + j) := by
      rw [h1, Nat.sub_mul]
      have : olds.length * sz ≤ i * sz := Nat.mul_le_mul_right _ (by omega)
      omega
    rw [List.append_assoc, e2, List.getElem?_append_right (by omega)]
    have e3 : ol.length + ((i - olds.length) * sz + j) - ol.length = (i - olds.length) * sz + j := by omega
    rw [e3, List.getElem?_append_left hll]
    exact hu

theorem rows_append_len {sz : Nat} {olds news : List (List AV)} (hs : ∀ (i : Nat) (row : List AV), olds[i]? = some row → row.length = sz) (hs' : ∀ (i : Nat) (row : List AV), news[i]? = some row → row.length = sz) :
    ∀ (i : Nat) (row : List AV), (olds ++ news)[i]? = some row → row.length = sz := by
  intro i row hi
  rw [List.getElem?_append] at hi
  split at hi
  · exact hs i row hi
  · exact hs' _ row hi

theorem ext_drew {H : Hp} {ρ : Rho} {w : World} : Ext H ρ w H ρ w.drew :=
  ⟨Nat.le_refl _, fun b sz ver rows fz _ h => ⟨sz, ver, rows, fz, h, Nat.le_refl _, fun _ => ⟨rfl, Nat.le_refl _, rfl⟩⟩, fun b s pos _ h => ⟨pos, h, rfl⟩, fun b es _ h => ⟨es, h, rfl⟩, fun g hg _ => rfl, Nat.le_refl _, fun g _ h => h, fun g h => h, fun g _ h => .inl h, fun b x h1 h2 _ => ⟨b, x, h1, h2, rfl⟩, rfl, rfl, rfl⟩

theorem HRep.drew {H : Hp} {ρ : Rho} {w : World} (hH : HRep H ρ w) : HRep H ρ w.drew := hH.keep ext_drew (fun g _ => rfl)

set_option maxHeartbeats 800000 in
theorem sound_append (P : Program) (t e : TypeId) (i : TypeInfo) (z : Value) (ht : P.underlying t = some (.slice e)) (hi : P.info? e = some i) (hz : i.zero = some z) (h0 : 0 < i.size) (hzs : z.cells.size = i.size)
    (x y : Operand) (x' y' : Od) (hx : rsvOd x = some x') (hy : rsvOd y = some y') :
    Sound P (.call { callee := .builtin .append, args := #[x, y], argTypes := #[t, t] }) (.append i.size i.bytes z.cells.toList x' y') := by
  intro H ρ w tm a o r ho hT hH hr hp
  simp only [aop] at hr
  split at hr
  · rename_i la lb hla hlb
    have ra := odv_rep hT hx hla
    have rb := odv_rep hT hy hlb
    unfold aappend at hr
    split at hr
    · cases hr
    · rename_i news hnews
      obtain ⟨B, cB, hevB, hs', hsrc⟩ := src_rep hH hnews rb
      -- the new cells
      have hnl : ∃ nl : List Value, nl.length = news.length * i.size ∧ (∀ u ∈ nl, u.oneCell' = true) ∧
          (∀ (i' : Nat) (row : List AV) (j : Nat) (x : AV), news[i']? = some row → row[j]? = some x → ∃ u, nl[i' * i.size + j]? = some u ∧ ARep H ρ w x u) ∧
          (news.length = 0 ∨ ∃ g k, B = some ⟨g, k, none⟩ ∧ ∀ q u, nl[q]? = some u → w.cell? ((⟨g, k, none⟩ : Addr).add q) = some u) := by
        rcases Nat.eq_zero_or_pos news.length with h | h
        · refine ⟨[], by simp [h], by simp, fun i' row j x hi' => ?_, .inl h⟩
          have := (List.getElem?_eq_some_iff.1 hi').1
          omega
        · obtain ⟨g, k, hB, hc⟩ := hsrc h
          obtain ⟨nl, n1, n2, n3, n4⟩ := flat_rep h0 hs' hc
          exact ⟨nl, n1, n3, n4, .inr ⟨g, k, hB, n2⟩⟩
      obtain ⟨nl, n1, n2, n3, n4⟩ := hnl
      have hfc : (Builtin.firstCells i.size news.length (.slice B news.length cB)).run P w = .ok nl.toArray w := by
        rcases n4 with h | ⟨g, k, hB, hc⟩
        · have : nl = [] := List.eq_nil_of_length_eq_zero (by rw [n1, h]; simp)
          subst this
          rw [h]
          cases B with
          | none => simp [Builtin.firstCells]
          | some b => simp [Builtin.firstCells, loadCells, loadCellsFrom]
        · subst hB
          exact run_firstCells_some w i.size news.length _ _ _ nl n1 hc
      split at hr
      · -- onto nothing
        simp only [Option.some.injEq] at hr
        subst hr
        obtain ⟨p2, p3⟩ : news.length * i.bytes ≤ 140737488355328 ∧ news.length ≤ 140737488355328 := hp
        have hevx := ra.scI
        rcases Nat.eq_zero_or_pos news.length with h | h
        · have hnil : news = [] := List.eq_nil_of_length_eq_zero h
          subst hnil
          have hrun : (execOp a.eval o).run P w = .ok (.value (.slice none 0 0)) w := by
            rw [append_run P w t a o x y ho, hevx, hevB]
            simp [Builtin.append_, run_underlying ht, sizeOf, typeInfo, hi, Builtin.lenOf]
            simp only [List.length_nil] at hfc
            simp [hfc]
          have hnew := turn (w' := w) hH H.nxt (.cells i.size 0 [] false) ⟨0, 0, 0, true⟩ (Nat.le_refl _) rfl rfl rfl (fun g hg _ => rfl) (fun h => by cases h) (fun h => by omega) (fun h => by omega) (fun h => by omega)
            (fun e' => ⟨by simp, h0, by simp, by simp, by simp, by simp⟩)
          rw [← hp_new_eq] at hnew
          refine ⟨_, _, _, _, hrun, .inl rfl, .one _ _ ?_, hnew.1, hnew.2⟩
          exact ARep.mkOwn (H := H.new (.cells i.size 0 [] false)) (by simp [Hp.new]) (sz := i.size) (rows := []) (fz := false) (by simp [Hp.new, Bs.get_cons]) none 0 (by simp) (by simp) (by simp)
        · rcases n4 with h' | ⟨g, k, hB, hc⟩
          · omega
          subst hB
          have hrun' := run_append_nil (P := P) w t o.type e i z ht hi hz ⟨g, k, none⟩ news.length cB nl n1 hc h (by omega) (by omega)
          have hrun : (execOp a.eval o).run P w = .ok (.value (.slice (some ⟨w.heap.size, 0, none⟩) news.length (grownCap w news.length 0 e))) (w.drew.alloc (.cells (nl.toArray ++ Builtin.zeroCells z.cells (grownCap w news.length 0 e - news.length)) e)) := by
            rw [append_run P w t a o x y ho, hevx, hevB, hrun']; rfl
          generalize hcap : grownCap w news.length 0 e = cap at *
          have hge : news.length ≤ cap := by rw [← hcap]; exact grownCap_ge _ _ _ _
          obtain ⟨hH', e'⟩ := new_cells hH.drew (.cells (nl.toArray ++ Builtin.zeroCells z.cells (cap - news.length)) e) (.cells i.size 0 news false) ⟨w.heap.size, 0, cap, false⟩ (fun _ => rfl) (fun H' ρ' e' => by
            refine ⟨hs', h0, hge, p3, by simp, fun _ => ⟨_, e, heap_alloc_new w.drew _, ?_, fun i' row j x hi' hj => ?_⟩⟩
            · simp only [Array.size_append, List.size_toArray, n1, size_zeroCells, hzs, ← Nat.add_mul]
              rw [show news.length + (cap - news.length) = cap from by omega]; simp
            · obtain ⟨u, hu, hr⟩ := n3 i' row j x hi' hj
              refine ⟨u, ?_, (hr.keep ext_drew).keep e'⟩
              have hll := (List.getElem?_eq_some_iff.1 hu).1
              simp only [Nat.zero_add]
              rw [Array.getElem?_append_left (by simpa using hll)]
              simpa using hu)
          refine ⟨_, _, _, _, hrun, .inl rfl, .one _ _ ?_, hH', ext_drew.trans e'⟩
          exact ARep.mkOwn (H := H.new (.cells i.size 0 news false)) (by simp [Hp.new]) (sz := i.size) (rows := news) (fz := false) (by simp [Hp.new, Bs.get_cons]) _ _ (by simp) hge (by simp)
      · -- onto a row of its own
        rename_i b ver off len
        split at hr
        · rename_i s v rows hg
          split at hr
          · rename_i hv
            subst hv
            simp only [Option.some.injEq] at hr
            subst hr
            obtain ⟨hs, p2, p3⟩ : s = i.size ∧ (len + news.length) * i.bytes ≤ 140737488355328 ∧ len + news.length ≤ 140737488355328 := hp
            subst hs
            obtain ⟨m1, A, c, hevx, m2, m4⟩ := ra.ownI hg
            obtain ⟨k1, k2, k3, k4, k5, k6⟩ := hH.blk b _ hg
            have hb := hH.lt b _ hg
            have holdlen : ((rows.drop off).take len).length = len := by simp; omega
            have hoget : ∀ (p : Nat) (row : List AV), ((rows.drop off).take len)[p]? = some row → rows[off + p]? = some row := by
              intro p row hp
              rw [List.getElem?_take] at hp
              split at hp
              · simpa using hp
              · cases hp
            have hso : ∀ (p : Nat) (row : List AV), ((rows.drop off).take len)[p]? = some row → row.length = i.size := fun p row hp => k1 _ _ (hoget p row hp)
            have hput : H.put b (.cells i.size (v + 1) ((rows.drop off).take len ++ news) false) = ⟨(b, .cells i.size (v + 1) ((rows.drop off).take len ++ news) false) :: H.bs, max H.nxt (b + 1)⟩ := by
              unfold Hp.put
              congr 1; omega
            have hcver : b < H.nxt → ∀ (l' : Loc) sz ver rows' fz', (Blk.cells i.size (v + 1) ((rows.drop off).take len ++ news) false) = .cells sz ver rows' fz' → ∃ sz0 ver0 rows0 fz, H.bs.get b = some (.cells sz0 ver0 rows0 fz) ∧ ver0 ≤ ver ∧ (ver0 = ver → sz0 = sz ∧ rows0.length ≤ rows'.length ∧ l' = ρ b) := by
              intro _ l' sz ver rows' fz' h
              simp only [Blk.cells.injEq] at h
              obtain ⟨_, rfl, _⟩ := h
              exact ⟨_, _, _, _, hg, by omega, fun h => by omega⟩
            by_cases hfit : len + news.length ≤ c
            · by_cases hc0 : c = 0
              · -- nothing onto nothing
                subst hc0
                have hl0 : len = 0 := by omega
                have hn0 : news.length = 0 := by omega
                have hnil : news = [] := List.eq_nil_of_length_eq_zero hn0
                subst hnil
                subst hl0
                have hrun : (execOp a.eval o).run P w = .ok (.value (.slice A 0 0)) w := by
                  rw [append_run P w t a o x y ho, hevx, hevB]
                  simp only [List.length_nil] at hfc
                  have hnl0 : nl = [] := List.eq_nil_of_length_eq_zero (by simpa using n1)
                  subst hnl0
                  cases A with
                  | none => simp [Builtin.append_, run_underlying ht, sizeOf, typeInfo, hi, Builtin.lenOf, hfc]
                  | some ad => simp [Builtin.append_, run_underlying ht, sizeOf, typeInfo, hi, Builtin.lenOf, hfc, storeCells]
                have hnew := turn (w' := w) hH b (.cells i.size (v + 1) ((rows.drop off).take 0 ++ []) false) ⟨0, 0, 0, true⟩ (Nat.le_refl _) rfl rfl rfl (fun g hg _ => rfl) (fun h => by cases h) (fun h => hcver h _) (fun _ s p h => by cases h) (fun _ es h => by cases h)
                  (fun e' => ⟨by simp, h0, by simp, by simp, by simp, by simp⟩)
                rw [← hput] at hnew
                refine ⟨_, _, _, _, hrun, .inl rfl, .one _ _ ?_, hnew.1, hnew.2⟩
                exact ARep.mkOwn (H := H.put b (.cells i.size (v + 1) ((rows.drop off).take 0 ++ []) false)) (by simpa [Hp.put] using hb) (sz := i.size) (fz := false) (if_pos rfl) A 0 (by simp) (by simp) (by simp)
              · -- in place
                obtain ⟨m3, hA⟩ := m4 (by omega)
                subst hA
                have hnn : (ρ b).isNil = false := by
                  cases hq : (ρ b).isNil with
                  | false => rfl
                  | true => have := k5 hq; omega
                obtain ⟨cs, el, k7, k8, k9⟩ := k6 hnn
                have hbound : (ρ b).o + off * i.size + len * i.size + nl.length ≤ cs.size := by
                  rw [n1]
                  have : (off + (len + news.length)) * i.size ≤ (ρ b).cap * i.size := Nat.mul_le_mul_right _ (by omega)
                  simp only [Nat.add_mul] at this
                  omega
                have hst := run_storeCells_at P (ρ b).g ((ρ b).o + off * i.size + len * i.size) el nl 0 cs w k7 (by simpa using hbound) n2
                simp only [Nat.add_zero] at hst
                generalize hcur : (cs.toList.take ((ρ b).o + off * i.size + len * i.size) ++ nl ++ cs.toList.drop ((ρ b).o + off * i.size + len * i.size + nl.length)).toArray = cur at hst
                have hsize : cur.size = cs.size := by
                  rw [← hcur]; simp at hbound ⊢; omega
                have hrun : (execOp a.eval o).run P w = .ok (.value (.slice (some ⟨(ρ b).g, (ρ b).o + off * i.size, none⟩) (len + news.length) c)) (w.setRow (ρ b).g cur) := by
                  rw [append_run P w t a o x y ho, hevx, hevB]
                  simp [Builtin.append_, run_underlying ht, sizeOf, typeInfo, hi, Builtin.lenOf, hfit, hfc, add_none, hst]
                have hcurget : ∀ q, cur[q]? = if (ρ b).o + off * i.size + len * i.size ≤ q ∧ q < (ρ b).o + off * i.size + len * i.size + nl.length then nl[q - ((ρ b).o + off * i.size + len * i.size)]? else cs[q]? := by
                  intro q
                  rw [← hcur]
                  have hl1 : (cs.toList.take ((ρ b).o + off * i.size + len * i.size)).length = (ρ b).o + off * i.size + len * i.size := by simp; omega
                  simp only [List.getElem?_toArray, List.append_assoc]
                  by_cases h1 : q < (ρ b).o + off * i.size + len * i.size
                  · rw [List.getElem?_append_left (by omega), if_neg (by omega), List.getElem?_take, if_pos h1]; simp
                  · rw [List.getElem?_append_right (by omega), hl1]
                    by_cases h2 : q < (ρ b).o + off * i.size + len * i.size + nl.length
                    · rw [List.getElem?_append_left (by omega), if_pos (by omega)]
                    · rw [List.getElem?_append_right (by omega), if_neg (by omega), List.getElem?_drop]
                      have : (ρ b).o + off * i.size + len * i.size + nl.length + (q - ((ρ b).o + off * i.size + len * i.size) - nl.length) = q := by omega
                      rw [this]; simp
                obtain ⟨hH', e'⟩ := turn (w' := w.setRow (ρ b).g cur) hH b (.cells i.size (v + 1) ((rows.drop off).take len ++ news) false) ⟨(ρ b).g, (ρ b).o + off * i.size, c, false⟩ (by simp) rfl rfl rfl
                  (fun g hg' hno => setRow_other w (ρ b).g g _ (fun h => hno _ hg hnn (by rfl) h.symm))
                  (fun _ => ⟨by simpa using hH.glt b _ hg hnn, .inr ⟨_, hg, hnn, rfl, rfl⟩⟩)
                  (fun h => hcver h _) (fun _ s p h => by cases h) (fun _ es h => by cases h)
                  (fun e' => by
                    refine ⟨rows_append_len hso hs', h0, by simp [holdlen]; omega, by simp [holdlen]; omega, by simp, fun _ => ⟨cur, el, setRow_heap w _ cs cur el _ k7, ?_, fun p row j x hp hj => ?_⟩⟩
                    · rw [hsize]
                      have : (off + c) * i.size = (ρ b).cap * i.size := by rw [m3]
                      rw [Nat.add_mul] at this
                      show (ρ b).o + off * i.size + c * i.size ≤ cs.size
                      omega
                    · show ∃ u, cur[(ρ b).o + off * i.size + p * i.size + j]? = some u ∧ _
                      rw [hcurget]
                      have hlen := rows_append_len hso hs' p row hp
                      have hjl : j < i.size := by have := (List.getElem?_eq_some_iff.1 hj).1; omega
                      by_cases hpl : p < len
                      · rw [List.getElem?_append_left (by omega)] at hp
                        obtain ⟨u, hu, hr⟩ := k9 _ _ j x (hoget p row hp) hj
                        refine ⟨u, ?_, hr.keep e'⟩
                        have : (p + 1) * i.size ≤ len * i.size := Nat.mul_le_mul_right _ (by omega)
                        rw [Nat.add_mul] at this
                        rw [if_neg (by omega), ← hu, Nat.add_mul]
                        congr 1; omega
                      · rw [List.getElem?_append_right (by omega), holdlen] at hp
                        obtain ⟨u, hu, hr⟩ := n3 _ row j x hp hj
                        refine ⟨u, ?_, hr.keep e'⟩
                        have hll := (List.getElem?_eq_some_iff.1 hu).1
                        rw [Nat.sub_mul] at hu hll
                        have : len * i.size ≤ p * i.size := Nat.mul_le_mul_right _ (by omega)
                        rw [if_pos (by omega), ← hu]
                        congr 1; omega)
                rw [← hput] at hH' e'
                refine ⟨_, _, _, _, hrun, .inl rfl, .one _ _ ?_, hH', e'⟩
                exact ARep.mkOwn (H := H.put b (.cells i.size (v + 1) ((rows.drop off).take len ++ news) false)) (by simpa [Hp.put] using hb) (sz := i.size) (fz := false) (if_pos rfl) _ _ (by simp [holdlen]) hfit (by simp)
            · -- anew
              have hnpos : 0 < news.length := by omega
              rcases n4 with h' | ⟨g, k, hB, hc⟩
              · omega
              subst hB
              have hol : ∃ ol : List Value, ol.length = len * i.size ∧ (∀ (p : Nat) (row : List AV) (j : Nat) (x : AV), ((rows.drop off).take len)[p]? = some row → row[j]? = some x → ∃ u, ol[p * i.size + j]? = some u ∧ ARep H ρ w x u) ∧
                  ((execOp a.eval o).run P w = .ok (.value (.slice (some ⟨w.heap.size, 0, none⟩) (len + news.length) (grownCap w (len + news.length) c e))) (w.drew.alloc (.cells (ol.toArray ++ nl.toArray ++ Builtin.zeroCells z.cells (grownCap w (len + news.length) c e - (len + news.length))) e))) := by
                rcases Nat.eq_zero_or_pos c with hc0 | hcp
                · subst hc0
                  have hl0 : len = 0 := by omega
                  subst hl0
                  refine ⟨[], by simp, by simp, ?_⟩
                  rw [append_run P w t a o x y ho, hevx, hevB]
                  cases A with
                  | none =>
                    have p2' : news.length * i.bytes ≤ 140737488355328 := by simpa using p2
                    have hrun' := run_append_nil (P := P) w t o.type e i z ht hi hz ⟨g, k, none⟩ news.length cB nl n1 hc hnpos (by omega) (by omega)
                    rw [hrun']
                    simp
                  | some ad =>
                    have hrun' := run_append_grow (P := P) w t o.type e i z ht hi hz ad 0 0 [] (by simp) (by simp) ⟨g, k, none⟩ news.length cB nl n1 hc (by omega) (by omega) (growslice_fits (by omega) p2)
                    rw [hrun']
                    simp
                · have hA := (m4 hcp).2
                  subst hA
                  have hcells : ∀ (p : Nat) (row : List AV) (j : Nat) (x : AV), ((rows.drop off).take len)[p]? = some row → row[j]? = some x → ∃ u, w.cell? ⟨(ρ b).g, (ρ b).o + off * i.size + p * i.size + j, none⟩ = some u ∧ ARep H ρ w x u := by
                    intro p row j x hp hj
                    obtain ⟨u, q1, q2⟩ := (row_cells hH hg (hoget p row hp)).2.2 j x hj
                    refine ⟨u, ?_, q2⟩
                    rw [Nat.add_mul, ← Nat.add_assoc] at q1
                    exact q1
                  obtain ⟨ol, o1, o2, o3, o4⟩ := flat_rep h0 hso hcells
                  rw [holdlen] at o1
                  refine ⟨ol, o1, o4, ?_⟩
                  rw [append_run P w t a o x y ho, hevx, hevB]
                  have hrun' := run_append_grow (P := P) w t o.type e i z ht hi hz ⟨(ρ b).g, (ρ b).o + off * i.size, none⟩ len c ol o1 o2 ⟨g, k, none⟩ news.length cB nl n1 hc (by omega) (by omega) (growslice_fits (by omega) p2)
                  rw [hrun']
                  rfl
              obtain ⟨ol, o1, o4, hrun⟩ := hol
              generalize hcap : grownCap w (len + news.length) c e = cap at *
              have hge : len + news.length ≤ cap := by rw [← hcap]; exact grownCap_ge _ _ _ _
              obtain ⟨hH', e'⟩ := turn (w' := w.drew.alloc (.cells (ol.toArray ++ nl.toArray ++ Builtin.zeroCells z.cells (cap - (len + news.length))) e)) hH.drew b (.cells i.size (v + 1) ((rows.drop off).take len ++ news) false) ⟨w.heap.size, 0, cap, false⟩ (by simp) rfl rfl rfl
                (fun g hg' hno => heap_alloc_get w.drew _ g hg')
                (fun _ => ⟨by simp, .inl (by simp)⟩)
                (fun h => hcver h _) (fun _ s p h => by cases h) (fun _ es h => by cases h)
                (fun e' => by
                  refine ⟨rows_append_len hso hs', h0, by simp [holdlen]; omega, by simp [holdlen]; omega, by simp, fun _ => ⟨_, e, heap_alloc_new w.drew _, ?_, fun p row j x hp hj => ?_⟩⟩
                  · simp only [Array.size_append, List.size_toArray, n1, o1, size_zeroCells, hzs, ← Nat.add_mul]
                    rw [show len + news.length + (cap - (len + news.length)) = cap from by omega]; simp
                  · obtain ⟨u, hu, hr⟩ := grown_cells P (ol := ol) (nl := nl) z.cells 0 (by rw [o1, holdlen]) o4 n3 n1 hso hs' p row j x hp hj [] (Builtin.zeroCells z.cells (cap - (len + news.length))).toList
                    refine ⟨u, ?_, (hr.keep ext_drew).keep e'⟩
                    have e3 : (ol.toArray ++ nl.toArray ++ Builtin.zeroCells z.cells (cap - (len + news.length))) = ([] ++ (ol ++ nl ++ (Builtin.zeroCells z.cells (cap - (len + news.length))).toList)).toArray := by
                      apply Array.ext'; simp
                    rw [e3]
                    simpa using hu)
              rw [← hput] at hH' e'
              refine ⟨_, _, _, _, hrun, .inl rfl, .one _ _ ?_, hH', ext_drew.trans e'⟩
              exact ARep.mkOwn (H := H.put b (.cells i.size (v + 1) ((rows.drop off).take len ++ news) false)) (by simpa [Hp.put] using hb) (sz := i.size) (fz := false) (if_pos rfl) _ _ (by simp [holdlen]) hge (by simp)
          · cases hr
        · cases hr
      · cases hr
  · cases hr
end Go.Av

namespace Go.Av
open Go.RowKit

/-! ### structs alike -/
/-- A type's kind: a number, a truth value, a string. -/
def kindOf (P : Program) (t : TypeId) : Option Nat := match P.underlying t with
  | some (.int _) => some 0
  | some .bool => some 1
  | some .string => some 2
  | _ => none

/-- A struct whose fields are numbers, truth values and strings, one cell each: their kinds. -/
def flatKs (P : Program) : List Field → Nat → Option (List Nat)
  | [], _ => some []
  | f :: r, i => if f.name = "_" then none else if f.offset = i then match kindOf P f.type, flatKs P r (i + 1) with
    | some k, some ks => some (k :: ks)
    | _, _ => none
    else none

theorem part_scalar {P : Program} {w : World} {t : TypeId} {k : Nat} (hk : kindOf P t = some k) {xs : Array Value} {off : Nat} {v : Value} (hx : xs[off]? = some v) : (part t xs off).run P w = .ok v w := by
  have : (isAgg t).run P w = .ok false w := by
    unfold kindOf at hk
    unfold isAgg
    split at hk <;> first | (rename_i hd; simp [run_underlying hd]; done) | cases hk
  simp [part, Sem.run_bind, this, hx]

theorem equal_scalar {P : Program} {H : Hp} {ρ : Rho} {w : World} {t : TypeId} {k d : Nat} (hk : kindOf P t = some k) {a b : AV} {q : Bool} (hq : aeq1 k a b = some q) {u v : Value} (ru : ARep H ρ w a u) (rv : ARep H ρ w b v) :
    (Op.equalIn (d + 1) t u v).run P w = .ok q w := by
  unfold aeq1 at hq
  split at hq
  · split at hq
    · rename_i k' hkk
      subst hkk
      simp only [Option.some.injEq] at hq
      have e1 := (LRep.one _ _ ru).scI
      have e2 := (LRep.one _ _ rv).scI
      subst e1; subst e2; subst hq
      unfold kindOf at hk
      split at hk <;> first | (rename_i hd; exact run_equalIn_int w d t _ _ _ _ hd) | (simp at hk; done)
    · cases hq
  · simp only [Option.some.injEq] at hq
    have e1 := (LRep.one _ _ ru).scI
    have e2 := (LRep.one _ _ rv).scI
    subst e1; subst e2; subst hq
    unfold kindOf at hk
    split at hk <;> first | (rename_i hd; exact run_equalIn_bool w d t _ _ hd) | (simp at hk; done)
  · simp only [Option.some.injEq] at hq
    have e1 := (LRep.one _ _ ru).scI
    have e2 := (LRep.one _ _ rv).scI
    subst e1; subst e2; subst hq
    unfold kindOf at hk
    split at hk <;> first | (rename_i hd; exact run_equalIn_string w d t _ _ hd) | (simp at hk; done)
  · cases hq

theorem eqFields_run {P : Program} {H : Hp} {ρ : Rho} {w : World} (d : Nat) {xs ys : Array Value} : ∀ {fs : List Field} {i : Nat} {ks : List Nat} {as bs : List AV} {r : Bool}, flatKs P fs i = some ks → aeqs ks as bs = some r →
    (∀ (j : Nat) (x : AV), as[j]? = some x → ∃ u, xs[i + j]? = some u ∧ ARep H ρ w x u) → (∀ (j : Nat) (x : AV), bs[j]? = some x → ∃ u, ys[i + j]? = some u ∧ ARep H ρ w x u) →
    (Op.eqFields (d + 1) xs ys fs).run P w = .ok r w
  | [], i, ks, as, bs, r, hf, ha, h1, h2 => by
    simp only [flatKs, Option.some.injEq] at hf
    subst hf
    cases as with
    | nil => cases bs with
      | nil => simp only [aeqs, Option.some.injEq] at ha; subst ha; simp [Op.eqFields]
      | cons => simp [aeqs] at ha
    | cons => simp [aeqs] at ha
  | f :: fs, i, ks, as, bs, r, hf, ha, h1, h2 => by
    simp only [flatKs] at hf
    split at hf
    · cases hf
    · rename_i f1
      split at hf
      · rename_i f2
        split at hf
        · rename_i k ks' hk hks
          simp only [Option.some.injEq] at hf
          subst hf
          cases as with
          | nil => simp [aeqs] at ha
          | cons a as =>
            cases bs with
            | nil => simp [aeqs] at ha
            | cons b bs =>
              simp only [aeqs] at ha
              split at ha
              · rename_i q r' hq hr'
                simp only [Option.some.injEq] at ha
                obtain ⟨u, hu, ru⟩ := h1 0 a rfl
                obtain ⟨v, hv, rv⟩ := h2 0 b rfl
                simp only [Nat.add_zero] at hu hv
                have ih := eqFields_run (P := P) (w := w) d hks hr' (fun j x hx => by
                  have := h1 (j + 1) x (by simpa using hx)
                  rw [show i + 1 + j = i + (j + 1) from by omega]; exact this) (fun j x hx => by
                  have := h2 (j + 1) x (by simpa using hx)
                  rw [show i + 1 + j = i + (j + 1) from by omega]; exact this)
                rw [Op.eqFields, if_pos f1]
                simp only [Sem.run_bind, f2, part_scalar (w := w) hk hu, part_scalar (w := w) hk hv, Result.andThen_ok, equal_scalar (d := d) hk hq ru rv]
                cases q with
                | true => simpa [← ha] using ih
                | false => simp [← ha]
              · cases ha
        · cases hf
      · cases hf

theorem sound_bins (P : Program) (neg : Bool) (t : TypeId) (x y : Operand) (yt : TypeId) (x' y' : Od) (hx : rsvOd x = some x') (hy : rsvOd y = some y') (ks : List Nat) (ht : P.underlying t = some (.struct (P.fieldsOf t))) (hst : P.stoodInHeld t = false)
    (hg : P.eqGuardType P.depth t = false) (hf : flatKs P (P.fieldsOf t).toList 0 = some ks) :
    Sound P (.binOp (if neg then .neq else .eql) t x y yt) (.bins neg ks x' y') := by
  intro H ρ w tm a o r ho hT hH hr hp
  simp only [aop] at hr
  split at hr
  · rename_i la lb hla hlb
    split at hr
    · rename_i q hq
      simp only [Option.some.injEq] at hr
      subst hr
      have ra := odv_rep hT hx hla
      have rb := odv_rep hT hy hlb
      generalize hea : a.eval x = ea at ra
      generalize heb : a.eval y = eb at rb
      cases ra with
      | agg _ xs cx k1 k2 k3 =>
        cases rb with
        | agg _ ys cy l1 l2 l3 =>
          have he : (Op.equalIn 10000 t (.agg xs) (.agg ys)).run P w = .ok q w := by
            rw [run_equalIn_agg w 9999 t xs ys ht hst]
            refine eqFields_run (H := H) (ρ := ρ) 9998 hf hq (fun j z hz => ?_) (fun j z hz => ?_)
            · exact ⟨cx j, by simpa using k2 j z hz, k3 j z hz⟩
            · exact ⟨cy j, by simpa using l2 j z hz, l3 j z hz⟩
          refine sound_plain hH ?_ rfl
          cases neg with
          | true =>
            simp only [if_true] at ho ⊢
            simp [execOp, ho, hea, heb, run_eqGuard_agg w _ t x y xs ys hg, run_neq_struct, he]
          | false =>
            simp only [Bool.false_eq_true, if_false] at ho ⊢
            simp [execOp, ho, hea, heb, run_eqGuard_agg w _ t x y xs ys hg, run_eql_struct, he]
    · cases hr
  · cases hr

/-! ### bytes to a string -/
theorem abytes_get : ∀ {rows : List (List AV)} {ns : List Int}, abytes rows = some ns → ns.length = rows.length ∧ ∀ (i : Nat) (n : Int), ns[i]? = some n → rows[i]? = some [.iv (.sc (.int .u8 n))]
  | [], ns, h => by simp only [abytes, Option.some.injEq] at h; subst h; simp
  | row :: r, ns, h => by
    unfold abytes at h
    split at h
    · rename_i h0; cases h0
    · rename_i n r' h0
      simp only [List.cons.injEq] at h0
      obtain ⟨rfl, rfl⟩ := h0
      cases hq : abytes r with
      | none => simp [hq] at h
      | some ms =>
        simp only [hq, Option.map_some, Option.some.injEq] at h
        subst h
        obtain ⟨h1, h2⟩ := abytes_get hq
        refine ⟨by simp [h1], fun i m hm => ?_⟩
        rcases i with _ | i
        · simp at hm; subst hm; rfl
        · simpa using h2 i m (by simpa using hm)
    · cases h

theorem sound_b2s (P : Program) (src dst e : TypeId) (hs : P.underlying src = some (.slice e)) (he : P.underlying e = some (.int .u8)) (hd : P.underlying dst = some .string) (x : Operand) (x' : Od) (hx : rsvOd x = some x') :
    Sound P (.convert src dst x) (.b2s x') := by
  intro H ρ w tm a o r ho hT hH hr hp
  simp only [aop] at hr
  split at hr
  · rename_i lv hl
    split at hr
    · rename_i rows hrows
      split at hr
      · rename_i ns hns
        simp only [Option.some.injEq] at hr
        subst hr
        obtain ⟨B, c, hev, h1, h2⟩ := src_rep hH hrows (odv_rep hT hx hl)
        obtain ⟨hlen, hget⟩ := abytes_get hns
        have hc : (convert src dst (.slice B rows.length c)).run P w = .ok (.string (strOfNums ns)) w := by
          by_cases h0 : rows.length = 0
          · have : ns = [] := List.eq_nil_of_length_eq_zero (by omega)
            subst this
            rw [h0]
            cases B with
            | none => rw [run_convert_bytes_nil w src e hs he 0 c dst hd]; simp [strOfNums, ByteArray.empty, ByteArray.emptyWithCapacity]; rfl
            | some ad =>
              rw [run_convert_bytes_string w src dst e _ 0 c hs he hd, run_bytesToString w ad 0 c [] (by simp [loadCells, loadCellsFrom])]
              simp [strOfNums, ByteArray.empty, ByteArray.emptyWithCapacity]; rfl
          · obtain ⟨g, k, rfl, hcell⟩ := h2 (by omega)
            refine run_convert_bytes_arg w src e hs he g k rows.length c ns hlen (fun i hi => ?_) dst hd
            have hn : ns[i]? = some (ns.getD i 0) := by
              have hil : i < ns.length := by omega
              simp [List.getD, List.getElem?_eq_getElem hil]
            obtain ⟨u, hu, hr⟩ := hcell i _ 0 _ (hget i _ hn) rfl
            have := (LRep.one _ _ hr).scI
            subst this
            simpa using hu
        refine sound_plain hH ?_ rfl
        simp [execOp, ho, hev, hc]
      · cases hr
    · cases hr
  · cases hr

/-! ### zeros over a slice's elements -/
theorem zeroCells_get (z : Array Value) (n p j : Nat) (hp : p < n) (hj : j < z.size) : (Builtin.zeroCells z n)[p * z.size + j]? = z[j]? := by
  have hlt : p * z.size + j < n * z.size := by
    have : (p + 1) * z.size ≤ n * z.size := Nat.mul_le_mul_right _ (by omega)
    rw [Nat.add_mul] at this; omega
  have hm : (p * z.size + j) % z.size = j := by
    rw [Nat.add_comm, Nat.add_mul_mod_self_right, Nat.mod_eq_of_lt hj]
  unfold Builtin.zeroCells
  rw [Array.getElem?_map, Array.getElem?_range, if_pos hlt]
  simp [hm, hj]

theorem clear_run (P : Program) (w : World) (t : TypeId) (a : Act) (o : Oper) (x : Operand) (ho : o.op = .call { callee := .builtin .clear, args := #[x], argTypes := #[t] }) :
    (execOp a.eval o).run P w = ((Builtin.clear_ #[t] o.type #[a.eval x]).run P w).andThen fun v w' => .ok (.value v) w' := by
  simp [execOp, ho, resolve, invoke, builtin]

theorem sound_clear (P : Program) (t e : TypeId) (i : TypeInfo) (z : Value) (ht : P.underlying t = some (.slice e)) (hi : P.info? e = some i) (hz : i.zero = some z) (h0 : 0 < i.size) (hzs : z.cells.size = i.size) (hone : z.cells.toList.all (fun u => u.oneCell') = true)
    (x : Operand) (x' : Od) (hx : rsvOd x = some x') :
    Sound P (.call { callee := .builtin .clear, args := #[x], argTypes := #[t] }) (.clear i.size z.cells.toList x') := by
  intro H ρ w tm a o r ho hT hH hr hp
  have same : ∀ A c, a.eval x = .slice A 0 c → (execOp a.eval o).run P w = .ok (.value undef) w := by
    intro A c hev
    rw [clear_run P w t a o x ho, hev]
    cases A <;> simp [Builtin.clear_, run_underlying ht, undef]
  have done : (execOp a.eval o).run P w = .ok (.value undef) w → ∃ n v' w' ρ', (execOp a.eval o).run P w = .ok n w' ∧ (n = .value v' ∨ (n = .skip ∧ v' = undef)) ∧ LRep H ρ' w' (.tup []) v' ∧ HRep H ρ' w' ∧ Ext H ρ w H ρ' w' :=
    fun h => ⟨_, undef, w, ρ, h, .inl rfl, .tup _ _ (fun _ => undef) rfl (by simp) (by simp), hH, Ext.refl _ _ _⟩
  simp only [aop] at hr
  split at hr
  · rename_i lv hl
    have rx := odv_rep hT hx hl
    unfold aclear at hr
    split at hr
    · rename_i b ver off len
      split at hr
      · rename_i s v rows hg
        split at hr
        · rename_i hc
          obtain ⟨hver, hs, hzl, hlen⟩ := hc
          subst hver; subst hs
          simp only [Option.some.injEq] at hr
          subst hr
          obtain ⟨m1, A, c, hev, m2, m4⟩ := rx.ownI hg
          obtain ⟨k1, k2, k3, k4, k5, k6⟩ := hH.blk b _ hg
          have hc0 : 0 < c := by omega
          obtain ⟨m5, m6⟩ := m4 hc0
          have g2 : (ρ b).isNil = false := by
            cases hq : (ρ b).isNil with
            | false => rfl
            | true => have := k5 hq; omega
          obtain ⟨cs, el, k7, k8, k9⟩ := k6 g2
          generalize hzc : (Builtin.zeroCells z.cells len).toList = zl
          have hzll : zl.length = len * i.size := by rw [← hzc]; simp [size_zeroCells, hzs]
          have hfit : (ρ b).o + off * i.size + zl.length ≤ cs.size := by
            have : (off + len) * i.size ≤ (ρ b).cap * i.size := Nat.mul_le_mul_right _ (by omega)
            rw [Nat.add_mul] at this
            omega
          have hall : ∀ u ∈ z.cells.toList, u.oneCell' = true := by
            intro u hu
            exact (List.all_eq_true.1 hone) u hu
          have hzget : ∀ p j, p < len → j < i.size → ∃ u, zl[p * i.size + j]? = some u ∧ z.cells[j]? = some u ∧ u.oneCell' = true := by
            intro p j hp hj
            have := zeroCells_get z.cells len p j hp (by omega)
            rw [hzs] at this
            have hj' : j < z.cells.size := by omega
            refine ⟨z.cells[j], ?_, by simp [hj'], hall _ (by simp)⟩
            rw [← hzc]
            simp only [Array.getElem?_toList]
            rw [this]; simp [hj']
          have hone' : ∀ u ∈ zl, u.oneCell' = true := by
            intro u hu
            rw [← hzc] at hu
            simp only [Builtin.zeroCells, Array.toList_map, List.mem_map] at hu
            obtain ⟨q, hq, rfl⟩ := hu
            have hlt : q % z.cells.size < z.cells.size := Nat.mod_lt _ (by omega)
            rw [getElem!_pos z.cells (q % z.cells.size) hlt]
            exact hall _ (by simp)
          have hst := run_storeCells_at P (ρ b).g ((ρ b).o + off * i.size) el zl 0 cs w k7 (by simpa using hfit) hone'
          simp only [Nat.add_zero] at hst
          have hrun : (execOp a.eval o).run P w = .ok (.value undef) (w.setRow (ρ b).g (cs.toList.take ((ρ b).o + off * i.size) ++ zl ++ cs.toList.drop ((ρ b).o + off * i.size + zl.length)).toArray) := by
            rw [clear_run P w t a o x ho, hev, m6]
            obtain ⟨n, rfl⟩ : ∃ n, len = n + 1 := ⟨len - 1, by omega⟩
            simp [Builtin.clear_, run_underlying ht, zeroValue, typeInfo, hi, hz, hzc, storeCells, hst, undef]
          have hcur' : ∀ k, (cs.toList.take ((ρ b).o + off * i.size) ++ zl ++ cs.toList.drop ((ρ b).o + off * i.size + zl.length)).toArray[k]? =
              if (ρ b).o + off * i.size ≤ k ∧ k < (ρ b).o + off * i.size + len * i.size then zl[k - ((ρ b).o + off * i.size)]? else cs[k]? := by
            intro k
            have hl1 : (cs.toList.take ((ρ b).o + off * i.size)).length = (ρ b).o + off * i.size := by simp; omega
            simp only [List.getElem?_toArray, List.append_assoc]
            by_cases h1 : k < (ρ b).o + off * i.size
            · rw [List.getElem?_append_left (by omega), if_neg (by omega), List.getElem?_take, if_pos h1]; simp
            · rw [List.getElem?_append_right (by omega), hl1]
              by_cases h2 : k < (ρ b).o + off * i.size + len * i.size
              · rw [List.getElem?_append_left (by omega), if_pos (by omega)]
              · rw [List.getElem?_append_right (by omega), if_neg (by omega), hzll, List.getElem?_drop]
                have : (ρ b).o + off * i.size + len * i.size + (k - ((ρ b).o + off * i.size) - len * i.size) = k := by omega
                rw [this]; simp
          generalize hcur : (cs.toList.take ((ρ b).o + off * i.size) ++ zl ++ cs.toList.drop ((ρ b).o + off * i.size + zl.length)).toArray = cur at hrun hcur'
          have hsize : cur.size = cs.size := by
            rw [← hcur]; simp; omega
          have hb : b < H.nxt := hH.lt b _ hg
          generalize hrows : rows.take off ++ List.replicate len (z.cells.toList.map sct) ++ rows.drop (off + len) = rows'
          have hrl : rows'.length = rows.length := by rw [← hrows]; simp; omega
          have hrget : ∀ p, rows'[p]? = if off ≤ p ∧ p < off + len then some (z.cells.toList.map sct) else rows[p]? := by
            intro p
            have hl1 : (rows.take off).length = off := by simp; omega
            rw [← hrows, List.append_assoc]
            by_cases h1 : p < off
            · rw [List.getElem?_append_left (by omega), if_neg (by omega), List.getElem?_take, if_pos h1]
            · rw [List.getElem?_append_right (by omega), hl1]
              by_cases h2 : p < off + len
              · rw [List.getElem?_append_left (by rw [List.length_replicate]; omega), if_pos (by omega), List.getElem?_replicate, if_pos (by omega)]
              · rw [List.getElem?_append_right (by rw [List.length_replicate]; omega), if_neg (by omega), List.getElem?_drop, List.length_replicate]
                congr 1
                omega
          have hput : H.put b (.cells i.size v rows' false) = ⟨(b, .cells i.size v rows' false) :: H.bs, max H.nxt (b + 1)⟩ := by
            unfold Hp.put
            congr 1; omega
          have hρ : ρ.set b (ρ b) = ρ := Rho.set_self ρ b
          obtain ⟨hH', e'⟩ := turn (w' := w.setRow (ρ b).g cur) hH b (.cells i.size v rows' false) (ρ b) (by rw [setRow_size]; exact Nat.le_refl _) rfl rfl rfl
            (fun g hg' hno => setRow_other w (ρ b).g g _ (fun h => hno _ hg g2 (by rfl) h.symm))
            (fun _ => ⟨by rw [setRow_size]; exact hH.glt b _ hg g2, .inr ⟨_, hg, g2, rfl, rfl⟩⟩)
            (fun _ sz ver rows2 fz' h => by
              simp only [Blk.cells.injEq] at h
              obtain ⟨rfl, rfl, rfl, rfl⟩ := h
              exact ⟨_, _, rows, false, hg, Nat.le_refl _, fun _ => ⟨rfl, by omega, rfl⟩⟩)
            (fun _ s pos' h => by cases h) (fun _ es h => by cases h)
            (fun e' => by
              refine ⟨fun p rw' hrw => ?_, k2, by omega, by omega, k5, fun _ => ⟨cur, el, setRow_heap w _ cs cur el _ k7, by omega, fun p rw' q y hrw hy => ?_⟩⟩
              · rw [hrget] at hrw
                split at hrw
                · simp only [Option.some.injEq] at hrw
                  subst hrw
                  rw [List.length_map]; simpa using hzs
                · exact k1 p rw' hrw
              · rw [hcur']
                rw [hrget] at hrw
                split at hrw
                · rename_i hin
                  simp only [Option.some.injEq] at hrw
                  subst hrw
                  have hq : q < i.size := by
                    have := (List.getElem?_eq_some_iff.1 hy).1
                    simp [hzs] at this; exact this
                  obtain ⟨u, hu1, hu2, hu3⟩ := hzget (p - off) q (by omega) hq
                  have hy' : y = sct u := by
                    simp only [List.getElem?_map, Array.getElem?_toList, hu2, Option.map_some, Option.some.injEq] at hy
                    exact hy.symm
                  subst hy'
                  refine ⟨u, ?_, .iv _ _ (.sc u hu3)⟩
                  have e1 : p * i.size = off * i.size + (p - off) * i.size := by rw [← Nat.add_mul]; congr 1; omega
                  have e2 : (p - off + 1) * i.size ≤ len * i.size := Nat.mul_le_mul_right _ (by omega)
                  rw [Nat.add_mul] at e2
                  rw [if_pos (by omega)]
                  rw [← hu1]
                  congr 1
                  omega
                · rename_i hin
                  have hq : q < i.size := by
                    have h1 := k1 p rw' hrw
                    have := (List.getElem?_eq_some_iff.1 hy).1
                    omega
                  obtain ⟨u, hu, hr'⟩ := k9 p rw' q y hrw hy
                  refine ⟨u, ?_, hr'.keep e'⟩
                  rw [if_neg ?_]
                  · exact hu
                  · intro hin2
                    rcases Nat.lt_or_ge p off with h | h
                    · have : (p + 1) * i.size ≤ off * i.size := Nat.mul_le_mul_right _ (by omega)
                      rw [Nat.add_mul] at this; omega
                    · have : (off + len) * i.size ≤ p * i.size := Nat.mul_le_mul_right _ (by omega)
                      rw [Nat.add_mul] at this; omega)
          rw [hρ, ← hput] at hH' e'
          exact ⟨_, undef, _, ρ, hrun, .inl rfl, .tup _ _ (fun _ => undef) rfl (by simp) (by simp), hH', e'⟩
        · split at hr
          · rename_i hc
            obtain ⟨hver, hlen⟩ := hc
            subst hver; subst hlen
            simp only [Option.some.injEq] at hr
            subst hr
            obtain ⟨m1, A, c, hev, _⟩ := rx.ownI hg
            exact done (same A c hev)
          · cases hr
      · cases hr
    · simp only [Option.some.injEq] at hr
      subst hr
      exact done (same _ _ rx.scI)
    · cases hr
  · cases hr

theorem equal_nil (P : Program) (w : World) (t : TypeId) (ifc : Bool) (ht : if ifc then ∃ d, P.underlying t = some (.interface d) else ∃ e, P.underlying t = some (.slice e)) (v : Value) (b : Bool)
    (h : match ifc, v with
      | true, .nilIface => b = true
      | true, .iface _ _ => b = false
      | false, .slice none _ _ => b = true
      | false, .slice (some _) _ _ => b = false
      | _, _ => False) : (Op.equal t v (if ifc then .nilIface else .slice none 0 0)).run P w = .ok b w := by
  simp only [Op.equal, Op.maxDepth]
  unfold Op.equalIn
  cases ifc with
  | true =>
    simp only [if_true] at ht ⊢
    obtain ⟨d, ht⟩ := ht
    cases v <;> simp at h <;> subst h <;> simp [run_underlying ht]
  | false =>
    simp only [Bool.false_eq_true, if_false] at ht ⊢
    obtain ⟨d, ht⟩ := ht
    cases v with
    | slice A n c =>
      cases A <;> simp at h <;> subst h <;> simp [run_underlying ht]
    | _ => simp at h

theorem sound_isnil (P : Program) (ifc neg : Bool) (t : TypeId) (ht : if ifc then ∃ d, P.underlying t = some (.interface d) else ∃ e, P.underlying t = some (.slice e)) (x : Operand) (yt : TypeId) (x' : Od) (hx : rsvOd x = some x') :
    Sound P (.binOp (if neg then .neq else .eql) t x (.const (if ifc then .nilIface else .slice none 0 0)) yt) (.isnil ifc neg x') := by
  intro H ρ w tm a o r ho hT hH hr hp
  simp only [aop] at hr
  split at hr
  · rename_i lv hlv
    have ra := odv_rep hT hx hlv
    split at hr
    · rename_i b hb
      simp only [Option.some.injEq] at hr
      subst hr
      have hq : (Op.equal t (a.eval x) (if ifc then .nilIface else .slice none 0 0)).run P w = .ok b w := by
        refine equal_nil P w t ifc ht _ b ?_
        unfold aisnil at hb
        split at hb
        · cases ifc with
          | true => cases hb
          | false =>
            simp only [Bool.false_eq_true, if_false, Option.some.injEq] at hb
            cases ra with
            | one _ _ ra =>
              cases ra with
              | iv _ _ ra =>
                generalize a.eval x = v at ra
                cases ra with
                | sl sz rows A cap g o cv hsz hlen hcap hA =>
                  obtain ⟨rfl, _⟩ := hA (by simp)
                  simp [← hb]
        · cases ifc with
          | true => cases hb
          | false =>
            simp only [Bool.false_eq_true, if_false, Option.some.injEq] at hb
            rw [ra.scI]; simp [← hb]
        · cases ifc with
          | false => cases hb
          | true =>
            simp only [if_true, Option.some.injEq] at hb
            rw [ra.scI]; simp [← hb]
        · cases ifc with
          | false => cases hb
          | true =>
            simp only [if_true, Option.some.injEq] at hb
            rw [ra.scI]; simp [← hb]
        · cases hb
      have hg : ∀ op v, (v = .nilIface ∨ ∀ l, v ≠ .agg l) → (eqGuard op t x (.const (if ifc then .nilIface else .slice none 0 0)) v (if ifc then .nilIface else .slice none 0 0)).run P w = .ok () w := by
        intro op v hv
        cases ifc <;> cases v <;> first | (cases op <;> simp [eqGuard]; done) | simp at hv
      have hna : a.eval x = .nilIface ∨ ∀ l, a.eval x ≠ .agg l := by
        refine .inr fun l e => ?_
        have h1 : ∃ z, lv = .one z := by
          unfold aisnil at hb
          split at hb <;> first | exact ⟨_, rfl⟩ | cases hb
        obtain ⟨z, rfl⟩ := h1
        cases ra with
        | one _ _ ra => have := ra.one; rw [e] at this; cases this
      have hev : a.eval (.const (if ifc then .nilIface else .slice none 0 0)) = (if ifc then .nilIface else .slice none 0 0) := rfl
      refine sound_plain hH (v := .bool (if neg then !b else b)) ?_ rfl
      have hbin : (binOp (if neg then .neq else .eql) t (a.eval x) (if ifc then .nilIface else .slice none 0 0)).run P w = .ok (.bool (if neg then !b else b)) w := by
        cases neg <;> cases ifc <;> simp only [Bool.false_eq_true, if_false, if_true] at hq ⊢ <;> (generalize a.eval x = v at hq; cases v <;> simp_all [binOp])
      simp only [execOp, ho]
      simp only [hev]
      simp [hg _ _ hna, hbin]
    · cases hr
  · cases hr

theorem sound_capn (P : Program) (t e : TypeId) (ht : P.underlying t = some (.slice e)) (x : Operand) (x' : Od) (hx : rsvOd x = some x') :
    Sound P (.call { callee := .builtin .cap, args := #[x], argTypes := #[t] }) (.capn x') := by
  intro H ρ w tm a o r ho hT hH hr hp
  simp only [aop] at hr
  split at hr
  · rename_i hl
    have ev := (odv_rep hT hx hl).scI
    simp only [Option.some.injEq] at hr
    subst hr
    exact sound_plain hH (by simp [execOp, ho, resolve, invoke, builtin, ev, Builtin.cap_, run_underlying ht, goInt]) rfl
  · cases hr

theorem sound_appn (P : Program) (t tn e : TypeId) (kn : IntKind) (i : TypeInfo) (z : Value) (ht : P.underlying t = some (.slice e)) (htn : P.underlying tn = some (.int kn)) (hi : P.info? e = some i) (hz : i.zero = some z) (h0 : 0 < i.size) (hzs : z.cells.size = i.size) (hone : z.cells.toList.all (fun u => u.oneCell') = true)
    (x y : Operand) (x' y' : Od) (hx : rsvOd x = some x') (hy : rsvOd y = some y') :
    Sound P (.call { callee := .builtin .append, args := #[x, y], argTypes := #[t, tn] }) (.appn i.size i.bytes z.cells.toList x' y') := by
  intro H ρ w tm a o r ho hT hH hr hp
  simp only [aop] at hr
  split at hr
  · rename_i la lb hla hlb
    have ra := odv_rep hT hx hla
    have rb := odv_rep hT hy hlb
    unfold aappn at hr
    split at hr
    · rename_i n
      simp only [Option.some.injEq] at hr
      subst hr
      obtain ⟨p1, p2, p3⟩ : 0 < n ∧ n.toNat * i.bytes ≤ 140737488355328 ∧ n.toNat ≤ 140737488355328 := hp
      have ea := ra.scI
      have eb := rb.scI
      obtain ⟨m, rfl⟩ : ∃ m : Nat, n = m := ⟨n.toNat, by omega⟩
      simp only [Int.toNat_natCast] at p2 p3 ⊢
      have hrun' := Lib.run_append_nil_zeros (P := P) w t tn o.type e i z .i64 kn ht htn hi hz m (by omega) h0 (by omega) (by omega)
      have hrun : (execOp a.eval o).run P w = .ok (.value (.slice (some ⟨w.heap.size, 0, none⟩) m (grownCap w m 0 e))) (w.drew.alloc (.cells (Builtin.zeroCells z.cells m ++ Builtin.zeroCells z.cells (grownCap w m 0 e - m)) e)) := by
        simp [execOp, ho, resolve, invoke, builtin, ea, eb, hrun']
      generalize hcap : grownCap w m 0 e = cap at *
      have hge : m ≤ cap := by rw [← hcap]; exact grownCap_ge _ _ _ _
      obtain ⟨hH', e'⟩ := new_cells hH.drew (.cells (Builtin.zeroCells z.cells m ++ Builtin.zeroCells z.cells (cap - m)) e) (.cells i.size 0 (List.replicate m (z.cells.toList.map sct)) false) ⟨w.heap.size, 0, cap, false⟩ (fun _ => rfl) (fun H' ρ' e' => by
        refine ⟨fun q row hq => ?_, h0, by simpa using hge, by simpa using p3, by simp, fun _ => ⟨_, e, heap_alloc_new w.drew _, ?_, fun q row j u hq hj => ?_⟩⟩
        · rw [List.getElem?_replicate] at hq
          split at hq
          · simp only [Option.some.injEq] at hq; subst hq; simp [hzs]
          · cases hq
        · simp only [Array.size_append, size_zeroCells, hzs, ← Nat.add_mul]
          rw [show m + (cap - m) = cap from by omega]; simp
        · rw [List.getElem?_replicate] at hq
          split at hq
          · rename_i hlt
            simp only [Option.some.injEq] at hq; subst hq
            rw [List.getElem?_map] at hj
            obtain ⟨v, hv, rfl⟩ := Option.map_eq_some_iff.1 hj
            have hjl : j < z.cells.size := by
              have := (List.getElem?_eq_some_iff.1 hv).1
              simpa using this
            refine ⟨v, ?_, .iv _ _ (.sc v ?_)⟩
            · have hcell := zeroCells_get z.cells m q j hlt hjl
              rw [hzs] at hcell
              simp only [Nat.zero_add]
              rw [Array.getElem?_append_left (by rw [size_zeroCells, hzs]; rw [hzs] at hjl; calc q * i.size + j < q * i.size + i.size := by omega
                  _ = (q + 1) * i.size := by rw [Nat.add_mul, Nat.one_mul]
                  _ ≤ m * i.size := Nat.mul_le_mul_right _ hlt), hcell]
              simpa using hv
            · exact List.all_eq_true.1 hone v (List.mem_of_getElem? hv)
          · cases hq)
      refine ⟨_, _, _, _, hrun, .inl rfl, .one _ _ ?_, hH', ext_drew.trans e'⟩
      exact ARep.mkOwn (H := H.new (.cells i.size 0 (List.replicate m (z.cells.toList.map sct)) false)) (by simp [Hp.new]) (sz := i.size) (rows := List.replicate m (z.cells.toList.map sct)) (fz := false) (by simp [Hp.new, Bs.get_cons]) _ _ (by simp) hge (by simp)
    · cases hr
  · cases hr
end Go.Av

namespace Go.Av
open Go.RowKit

/-! ### other numbers for blocks -/
mutual
def AV.ren (f : Nat → Nat) : AV → AV
  | .iv x => .iv x
  | .own b ver off len => .own (f b) ver off len
  | .ptr b ver i j => .ptr (f b) ver i j
  | .ip cs j => .ip cs j
  | .it b => .it (f b)
  | .mp b => .mp (f b)
  | .fn g caps => .fn g (rens f caps)
  | .junk => .junk
def rens (f : Nat → Nat) : List AV → List AV
  | [] => []
  | x :: r => AV.ren f x :: rens f r
end

theorem rens_get (f : Nat → Nat) : ∀ (l : List AV) (i : Nat), (rens f l)[i]? = (l[i]?).map (AV.ren f)
  | [], i => by simp [rens]
  | x :: r, i => by
    rcases i with _ | i
    · simp [rens]
    · simp [rens, rens_get f r i]

theorem rens_length (f : Nat → Nat) : ∀ (l : List AV), (rens f l).length = l.length
  | [] => rfl
  | x :: r => by simp [rens, rens_length f r]

mutual
def LV.ren (f : Nat → Nat) : LV → LV
  | .one x => .one (x.ren f)
  | .agg cs => .agg (rens f cs)
  | .tup xs => .tup (lrens f xs)
def lrens (f : Nat → Nat) : List LV → List LV
  | [] => []
  | x :: r => LV.ren f x :: lrens f r
end

theorem lrens_get (f : Nat → Nat) : ∀ (l : List LV) (i : Nat), (lrens f l)[i]? = (l[i]?).map (LV.ren f)
  | [], i => by simp [lrens]
  | x :: r, i => by
    rcases i with _ | i
    · simp [lrens]
    · simp [lrens, lrens_get f r i]

theorem lrens_length (f : Nat → Nat) : ∀ (l : List LV), (lrens f l).length = l.length
  | [] => rfl
  | x :: r => by simp [lrens, lrens_length f r]

def Blk.ren (f : Nat → Nat) : Blk → Blk
  | .cells sz ver rows fz => .cells sz ver (rows.map (rens f)) fz
  | .iter s pos => .iter s pos
  | .map es => .map es

def Bs.ren (f : Nat → Nat) (l : Bs) : Bs := l.map fun p => (f p.1, p.2.ren f)

theorem Bs.get_ren {f : Nat → Nat} (l : Bs) (hf : ∀ a b, (∃ x, (a, x) ∈ l) → f a = f b → a = b) (b : Nat) : (Bs.ren f l).get (f b) = (l.get b).map (Blk.ren f) := by
  induction l with
  | nil => rfl
  | cons p r ih =>
    obtain ⟨a, x⟩ := p
    show Bs.get ((f a, x.ren f) :: Bs.ren f r) (f b) = _
    rw [Bs.get_cons, Bs.get_cons]
    by_cases h : a = b
    · subst h; simp
    · have h' : ¬ f a = f b := fun e => h (hf a b ⟨x, by simp⟩ e)
      rw [if_neg h, if_neg h']
      exact ih fun a b ⟨y, hy⟩ => hf a b ⟨y, by simp [hy]⟩

theorem Bs.get_mem {l : Bs} {b : Nat} {x : Blk} (h : l.get b = some x) : (b, x) ∈ l := by
  induction l with
  | nil => cases h
  | cons p r ih =>
    obtain ⟨a, y⟩ := p
    rw [Bs.get_cons] at h
    split at h
    · rename_i e
      simp only [Option.some.injEq] at h
      subst h; subst e; simp
    · exact List.mem_cons_of_mem _ (ih h)

/-- What a number of a callee's block is with the caller. -/
def ridx (ms : List Nat) (base : Nat) (b : Nat) : Nat := match ms[b]? with
  | some i => i
  | none => base + b

theorem ridx_inj {ms : List Nat} {base : Nat} (hn : ms.Nodup) (hlt : ∀ i ∈ ms, i < base) {a b : Nat} (h : ridx ms base a = ridx ms base b) : a = b := by
  unfold ridx at h
  cases ha : ms[a]? with
  | none =>
    cases hb : ms[b]? with
    | none => simp only [ha, hb] at h; omega
    | some j =>
      simp only [ha, hb] at h
      have := hlt j (List.mem_of_getElem? hb)
      omega
  | some i =>
    cases hb : ms[b]? with
    | none =>
      simp only [ha, hb] at h
      have := hlt i (List.mem_of_getElem? ha)
      omega
    | some j =>
      simp only [ha, hb] at h
      subst h
      obtain ⟨h1, h2⟩ := List.getElem?_eq_some_iff.1 ha
      obtain ⟨h3, h4⟩ := List.getElem?_eq_some_iff.1 hb
      exact (List.getElem_inj hn).1 (h2.trans h4.symm)

/-! ### one value told in another way -/
mutual
/-- No slice at all may be told as a slice with nothing in it, at any depth. -/
inductive ICv : IV → IV → Prop
  | refl (x : IV) : ICv x x
  | nil (s : Nat) : ICv (.sc (.slice none 0 0)) (.sl s [])
  | sl (s : Nat) {rows rows' : List (List IV)} (h : ICvR rows rows') : ICv (.sl s rows) (.sl s rows')
inductive ICvR : List (List IV) → List (List IV) → Prop
  | nil : ICvR [] []
  | cons {x y : List IV} {r r' : List (List IV)} (h : ICvL x y) (hr : ICvR r r') : ICvR (x :: r) (y :: r')
inductive ICvL : List IV → List IV → Prop
  | nil : ICvL [] []
  | cons {x y : IV} {r r' : List IV} (h : ICv x y) (hr : ICvL r r') : ICvL (x :: r) (y :: r')
end

mutual
theorem ICv.rep {M : Nat → Prop} {w : World} : ∀ {x y : IV}, ICv x y → ∀ {v : Value}, IRep M w x v → IRep M w y v
  | _, _, .refl x, v, h => h
  | _, _, .nil s, v, h => by
    cases h with
    | sc _ _ => exact .sl s [] none 0 0 0 (fun _ _ => undef) (by simp) (by simp) (by simp) (by simp) (by simp) (by simp)
  | _, _, .sl s hr, v, h => by
    obtain ⟨h1, h2⟩ := ICvR.rep (M := M) (w := w) hr
    cases h with
    | sl sz rows A cap g o cv hsz hlen hcap hA hc hr =>
      rw [← h1] at *
      refine .sl s _ A cap g o cv (fun j row hj => ?_) hlen hcap hA (fun j row i x hj hi => ?_) (fun j row i x hj hi => ?_)
      · obtain ⟨r0, a1, a2, a3⟩ := h2 j row hj
        rw [a2]; exact hsz j r0 a1
      · obtain ⟨r0, a1, a2, a3⟩ := h2 j row hj
        obtain ⟨x0, b1, b2⟩ := a3 i x hi
        exact hc j r0 i x0 a1 b1
      · obtain ⟨r0, a1, a2, a3⟩ := h2 j row hj
        obtain ⟨x0, b1, b2⟩ := a3 i x hi
        exact b2 (hr j r0 i x0 a1 b1)
theorem ICvR.rep {M : Nat → Prop} {w : World} : ∀ {r r' : List (List IV)}, ICvR r r' → r'.length = r.length ∧ ∀ (j : Nat) (row' : List IV), r'[j]? = some row' → ∃ row, r[j]? = some row ∧ row'.length = row.length ∧ ∀ (i : Nat) (y : IV), row'[i]? = some y → ∃ x, row[i]? = some x ∧ ∀ {v : Value}, IRep M w x v → IRep M w y v
  | _, _, .nil => by simp
  | _, _, .cons h hr => by
    obtain ⟨h1, h2⟩ := ICvR.rep (M := M) (w := w) hr
    obtain ⟨h3, h4⟩ := ICvL.rep (M := M) (w := w) h
    refine ⟨by simp [h1], fun j row' hj => ?_⟩
    rcases j with _ | j
    · simp at hj; subst hj; exact ⟨_, rfl, h3, h4⟩
    · exact h2 j row' (by simpa using hj)
theorem ICvL.rep {M : Nat → Prop} {w : World} : ∀ {r r' : List IV}, ICvL r r' → r'.length = r.length ∧ ∀ (i : Nat) (y : IV), r'[i]? = some y → ∃ x, r[i]? = some x ∧ ∀ {v : Value}, IRep M w x v → IRep M w y v
  | _, _, .nil => by simp
  | _, _, .cons h hr => by
    obtain ⟨h1, h2⟩ := ICvL.rep (M := M) (w := w) hr
    have h3 := @ICv.rep M w _ _ h
    refine ⟨by simp [h1], fun j y hj => ?_⟩
    rcases j with _ | j
    · simp at hj; subst hj; exact ⟨_, rfl, h3⟩
    · exact h2 j y (by simpa using hj)
end

/-- What is told in one way may be told in the other way. -/
inductive Cv (H : Hp) : AV → AV → Prop
  | refl (x : AV) : Cv H x x
  | junk (x : AV) : Cv H x .junk
  | nilSl (s : Nat) : Cv H (.iv (.sc (.slice none 0 0))) (.iv (.sl s []))
  | nilOwn (b ver sz : Nat) (rows : List (List AV)) (fz : Bool) (h : H.bs.get b = some (.cells sz ver rows fz)) (hb : b < H.nxt) : Cv H (.iv (.sc (.slice none 0 0))) (.own b ver 0 0)
  | thaw (b ver off len sz : Nat) (rows : List (List AV)) (rs : List (List IV)) (h : H.bs.get b = some (.cells sz ver rows true)) (hr : (rows.drop off).take len = rs.map fun r => r.map .iv) : Cv H (.own b ver off len) (.iv (.sl sz rs))
  | iv {x y : IV} (h : ICv x y) : Cv H (.iv x) (.iv y)
  | trans {x y z : AV} (h1 : Cv H x y) (h2 : Cv H y z) : Cv H x z

inductive CvL (H : Hp) : List AV → List AV → Prop
  | nil : CvL H [] []
  | cons {x y : AV} {r r' : List AV} (h : Cv H x y) (hr : CvL H r r') : CvL H (x :: r) (y :: r')

inductive CvLV (H : Hp) : LV → LV → Prop
  | refl (x : LV) : CvLV H x x
  | one {x y : AV} (h : Cv H x y) : CvLV H (.one x) (.one y)
  | agg {l l' : List AV} (h : CvL H l l') : CvLV H (.agg l) (.agg l')

theorem CvL.refl {H : Hp} : ∀ l, CvL H l l
  | [] => .nil
  | x :: r => .cons (.refl x) (CvL.refl r)

theorem CvL.length {H : Hp} {l l' : List AV} (h : CvL H l l') : l'.length = l.length := by
  induction h with
  | nil => rfl
  | cons _ _ ih => simp [ih]

theorem CvL.get {H : Hp} {l l' : List AV} (h : CvL H l l') : ∀ (i : Nat) (y : AV), l'[i]? = some y → ∃ x, l[i]? = some x ∧ Cv H x y := by
  induction h with
  | nil => intro i y h; simp at h
  | cons h _ ih =>
    intro i y hy
    rcases i with _ | i
    · simp at hy; subst hy; exact ⟨_, rfl, h⟩
    · exact ih i y (by simpa using hy)

theorem not_mut_frozen {H : Hp} {ρ : Rho} {w : World} (hH : HRep H ρ w) {b sz ver : Nat} {rows : List (List AV)} (hg : H.bs.get b = some (.cells sz ver rows true)) (hn : (ρ b).isNil = false) : ¬ Mut H.bs ρ (ρ b).g := by
  rintro (h | ⟨i, x, hx, hgi, hni, ho⟩)
  · exact hH.xno b _ hg hn h
  · have := hH.apart i b x _ hx hg hni hn hgi
    subst this
    rw [hg] at hx
    simp only [Option.some.injEq] at hx
    exact ho _ _ _ hx.symm

theorem Cv.rep {H : Hp} {ρ : Rho} {w : World} (hH : HRep H ρ w) {x y : AV} (hc : Cv H x y) {v : Value} (h : ARep H ρ w x v) : ARep H ρ w y v := by
  induction hc with
  | refl => exact h
  | iv hi => cases h with
    | iv _ _ h => exact .iv _ _ (hi.rep h)
  | trans _ _ ih1 ih2 => exact ih2 (ih1 h)
  | junk => exact .junk _ h.one
  | nilSl s =>
    have e := (LRep.one _ _ h).scI
    subst e
    exact .iv _ _ (.sl s [] none 0 0 0 (fun _ _ => undef) (by simp) (by simp) (by simp) (by simp) (by simp) (by simp))
  | nilOwn b ver sz rows fz hg hb =>
    have e := (LRep.one _ _ h).scI
    subst e
    exact ARep.mkOwn hb hg none 0 (by simp) (by simp) (by simp)
  | thaw b ver off len sz rows rs hg hr =>
    obtain ⟨m1, A, c, rfl, m2, m4⟩ := (LRep.one _ _ h).ownI hg
    have hlen : rs.length = len := by
      have : ((rows.drop off).take len).length = len := by simp; omega
      rw [hr] at this; simpa using this
    have hget : ∀ (i : Nat) (r : List IV), rs[i]? = some r → rows[off + i]? = some (r.map .iv) := by
      intro i r hi
      have : ((rows.drop off).take len)[i]? = some (r.map .iv) := by rw [hr]; simp [hi]
      rw [List.getElem?_take] at this
      split at this
      · simpa using this
      · cases this
    rw [← hlen] at m2 ⊢
    obtain ⟨k1, k2, k3, k4, k5, k6⟩ := hH.blk b _ hg
    by_cases h0 : rs.length = 0
    · have : rs = [] := List.eq_nil_of_length_eq_zero h0
      subst this
      exact .iv _ _ (.sl sz [] A c 0 0 (fun _ _ => undef) (by simp) (by simp) (by simp) (by simp) (by simp) (by simp))
    · obtain ⟨m5, m6⟩ := m4 (by omega)
      have hn : (ρ b).isNil = false := by
        cases hq : (ρ b).isNil with
        | false => rfl
        | true => have := k5 hq; omega
      obtain ⟨cs, e, k7, k8, k9⟩ := k6 hn
      refine .iv _ _ (sl_of_block (sz := sz) (o := (ρ b).o + off * sz) (fun i r hi => ?_) (by omega) m2 k7 (not_mut_frozen hH hg hn) A (fun _ => m6) (fun i r j z hi hj => ?_))
      · have := k1 _ _ (hget i r hi)
        simpa using this
      · obtain ⟨u, hu, hrr⟩ := k9 _ _ j (.iv z) (hget i r hi) (by simp [hj])
        refine ⟨u, ?_, hrr.ivR⟩
        rw [← hu, Nat.add_mul, Nat.add_assoc (ρ b).o]

theorem CvLV.rep {H : Hp} {ρ : Rho} {w : World} (hH : HRep H ρ w) {x y : LV} (hc : CvLV H x y) {v : Value} (h : LRep H ρ w x v) : LRep H ρ w y v := by
  cases hc with
  | refl => exact h
  | one hc => cases h with
    | one _ _ h => exact .one _ _ (hc.rep hH h)
  | agg hc =>
    cases h with
    | agg cs vs cv hs hv hr =>
      refine .agg _ vs cv (by rw [hs, hc.length]) (fun i y hy => ?_) (fun i y hy => ?_)
      · obtain ⟨x, hx, _⟩ := hc.get i y hy
        exact hv i x hx
      · obtain ⟨x, hx, hcv⟩ := hc.get i y hy
        exact hcv.rep hH (hr i x hx)

/-- Blocks told in another way. -/
inductive BCv (H : Hp) : Blk → Blk → Prop
  | refl (x : Blk) : BCv H x x
  | cells (sz ver : Nat) (rows rows' : List (List AV)) (fz : Bool) (hl : rows'.length = rows.length) (h : ∀ (i : Nat) (r' : List AV), rows'[i]? = some r' → ∃ r, rows[i]? = some r ∧ CvL H r r') : BCv H (.cells sz ver rows fz) (.cells sz ver rows' fz)

/-- A block is not written any more; and a row of nothing that lies nowhere. -/
def Bs.freeze (fz : List Nat) : Bs → Bs
  | [] => []
  | (b, x) :: r => (b, match x with
    | .cells sz ver rows f => .cells sz ver rows (f || fz.contains b)
    | y => y) :: Bs.freeze fz r

def Hp.freeze (fz : List Nat) (H : Hp) : Hp := ⟨Bs.freeze fz H.bs, H.nxt⟩
def Hp.ghost (szs : List Nat) (H : Hp) : Hp := match szs with
  | [] => H
  | s :: r => Hp.ghost r (H.new (.cells s 0 [] false))

theorem Bs.get_freeze (fz : List Nat) (l : Bs) (b : Nat) : (Bs.freeze fz l).get b = (l.get b).map fun x => match x with
    | .cells sz ver rows f => .cells sz ver rows (f || fz.contains b)
    | y => y := by
  induction l with
  | nil => rfl
  | cons p r ih =>
    obtain ⟨a, x⟩ := p
    simp only [Bs.freeze, Bs.get_cons]
    split
    · rename_i h; subst h; rfl
    · exact ih

theorem freeze_ext {H : Hp} {ρ : Rho} {w : World} (fz : List Nat) : Ext H ρ w (H.freeze fz) ρ w := by
  refine ⟨Nat.le_refl _, fun b sz ver rows' fz' hb h => ?_, fun b s pos' hb h => ?_, fun b es' hb h => ?_, fun g _ _ => rfl, Nat.le_refl _, fun g _ h => ?_, fun g h => h, fun g _ h => .inl h, fun b x hx hn hg => ?_, rfl, rfl, rfl⟩
  · simp only [Hp.freeze, Bs.get_freeze] at h
    cases hq : H.bs.get b with
    | none => simp [hq] at h
    | some x =>
      cases x with
      | cells s v rows f =>
        simp only [hq, Option.map_some, Option.some.injEq, Blk.cells.injEq] at h
        obtain ⟨rfl, rfl, rfl, rfl⟩ := h
        exact ⟨_, _, _, _, rfl, Nat.le_refl _, fun _ => ⟨rfl, Nat.le_refl _, rfl⟩⟩
      | iter => simp [hq] at h
      | map => simp [hq] at h
  · simp only [Hp.freeze, Bs.get_freeze] at h
    cases hq : H.bs.get b with
    | none => simp [hq] at h
    | some x =>
      cases x with
      | cells => simp [hq] at h
      | iter s p =>
        simp only [hq, Option.map_some, Option.some.injEq, Blk.iter.injEq] at h
        obtain ⟨rfl, rfl⟩ := h
        exact ⟨_, rfl, rfl⟩
      | map => simp [hq] at h
  · simp only [Hp.freeze, Bs.get_freeze] at h
    cases hq : H.bs.get b with
    | none => simp [hq] at h
    | some x =>
      cases x with
      | cells => simp [hq] at h
      | iter => simp [hq] at h
      | map es => exact ⟨_, rfl, rfl⟩
  · obtain ⟨b, x, hx, hg, hn, ho⟩ := h
    simp only [Hp.freeze, Bs.get_freeze] at hx
    cases hq : H.bs.get b with
    | none => simp [hq] at hx
    | some y =>
      simp only [hq, Option.map_some, Option.some.injEq] at hx
      refine ⟨b, y, hq, hg, hn, fun sz ver rows e => ?_⟩
      subst e
      exact ho sz ver rows (by rw [← hx]; simp)
  · simp only [Hp.freeze, Bs.get_freeze] at hx
    cases hq : H.bs.get b with
    | none => simp [hq] at hx
    | some y => exact ⟨b, y, hq, hn, rfl⟩

theorem freeze_rep {H : Hp} {ρ : Rho} {w : World} (fz : List Nat) (hH : HRep H ρ w) : HRep (H.freeze fz) ρ w := by
  have e := freeze_ext (H := H) (ρ := ρ) (w := w) fz
  have hget : ∀ b x, (H.freeze fz).bs.get b = some x → ∃ y, H.bs.get b = some y ∧ x = (match y with
    | .cells sz ver rows f => .cells sz ver rows (f || fz.contains b)
    | y => y) := by
    intro b x hx
    simp only [Hp.freeze, Bs.get_freeze] at hx
    cases hq : H.bs.get b with
    | none => simp [hq] at hx
    | some y =>
      simp only [hq, Option.map_some, Option.some.injEq] at hx
      exact ⟨y, rfl, hx.symm⟩
  refine ⟨hH.xlt, fun b x hx hn => ?_, fun b x hx => ?_, fun b x hx => ?_, fun b x hx hn => ?_, fun b b' x x' hx hx' hn hn' hg => ?_⟩
  · obtain ⟨y, hy, _⟩ := hget b x hx
    exact hH.xno b y hy hn
  · obtain ⟨y, hy, rfl⟩ := hget b x hx
    have h0 := hH.blk b y hy
    cases y with
    | cells sz ver rows f =>
      obtain ⟨h1, h2, h3, h4, h5, h6⟩ := h0
      refine ⟨h1, h2, h3, h4, h5, fun hn => ?_⟩
      obtain ⟨cs, el, q1, q2, q3⟩ := h6 hn
      refine ⟨cs, el, q1, q2, fun i row j z hi hj => ?_⟩
      obtain ⟨u, hu, hr⟩ := q3 i row j z hi hj
      exact ⟨u, hu, hr.keep e⟩
    | iter => exact h0
    | map => exact h0
  · obtain ⟨y, hy, _⟩ := hget b x hx
    exact hH.lt b y hy
  · obtain ⟨y, hy, _⟩ := hget b x hx
    exact hH.glt b y hy hn
  · obtain ⟨y, hy, _⟩ := hget b x hx
    obtain ⟨y', hy', _⟩ := hget b' x' hx'
    exact hH.apart b b' y y' hy hy' hn hn' hg

theorem ghost_rep {ρ : Rho} {w : World} : ∀ (szs : List Nat) (H : Hp), (∀ s ∈ szs, 0 < s) → HRep H ρ w → ∃ ρ', HRep (H.ghost szs) ρ' w ∧ Ext H ρ w (H.ghost szs) ρ' w := by
  intro szs
  induction szs generalizing ρ with
  | nil => intro H _ hH; exact ⟨ρ, hH, Ext.refl _ _ _⟩
  | cons s r ih =>
    intro H hs hH
    have hnew := turn (w' := w) hH H.nxt (.cells s 0 [] false) ⟨0, 0, 0, true⟩ (Nat.le_refl _) rfl rfl rfl (fun g hg _ => rfl) (fun h => by cases h) (fun h => by omega) (fun h => by omega) (fun h => by omega)
      (fun e' => ⟨by simp, hs s (by simp), by simp, by simp, by simp, by simp⟩)
    rw [← hp_new_eq] at hnew
    obtain ⟨ρ', h1, h2⟩ := ih (H.new (.cells s 0 [] false)) (fun s h => hs s (by simp [h])) hnew.1
    exact ⟨ρ', h1, hnew.2.trans h2⟩

/-- The callee's heap, taken out of the caller's. -/
structure Sub (ms : List Nat) (H : Hp) (H0 : Hp) : Prop where
  nodup : ms.Nodup
  lt : ∀ i ∈ ms, i < H.nxt
  nxt : H0.nxt = ms.length
  blk : ∀ b x, H0.bs.get b = some x → b < H0.nxt → ∃ y, H.bs.get (ridx ms H.nxt b) = some y ∧ BCv H y (x.ren (ridx ms H.nxt))
  low : ∀ b x, H0.bs.get b = some x → b < H0.nxt

theorem Blk.ren_cells {f : Nat → Nat} {x : Blk} {sz ver : Nat} {rows : List (List AV)} {fz : Bool} (h : x.ren f = .cells sz ver rows fz) : ∃ rows0, x = .cells sz ver rows0 fz ∧ rows = rows0.map (rens f) := by
  cases x with
  | cells s v r z =>
    simp only [Blk.ren, Blk.cells.injEq] at h
    obtain ⟨rfl, rfl, rfl, rfl⟩ := h
    exact ⟨r, rfl, rfl⟩
  | iter => cases h
  | map => cases h

theorem Blk.ren_open {f : Nat → Nat} (x : Blk) : (x.ren f).open_ = x.open_ := by cases x <;> rfl

theorem Own.open {H : Bs} {ρ : Rho} {g : Nat} : Own H ρ g ↔ ∃ b x, H.get b = some x ∧ (ρ b).g = g ∧ (ρ b).isNil = false ∧ x.open_ = true :=
  ⟨fun ⟨b, x, h1, h2, h3, h4⟩ => ⟨b, x, h1, h2, h3, (Blk.open_iff x).2 h4⟩, fun ⟨b, x, h1, h2, h3, h4⟩ => ⟨b, x, h1, h2, h3, (Blk.open_iff x).1 h4⟩⟩

/-- The callee's view of where blocks lie. -/
def Rho.into (ρ : Rho) (ms : List Nat) (H H0 : Hp) : Rho :=
  ⟨fun b => ρ (ridx ms H.nxt b), fun g => Mut H.bs ρ g ∧ ¬ ∃ b x, H0.bs.get b = some x ∧ (ρ (ridx ms H.nxt b)).g = g ∧ (ρ (ridx ms H.nxt b)).isNil = false ∧ x.open_ = true⟩

@[simp] theorem Rho.into_loc (ρ : Rho) (ms : List Nat) (H H0 : Hp) (b : Nat) : (ρ.into ms H H0).loc b = ρ.loc (ridx ms H.nxt b) := rfl

theorem BCv.open_ {H : Hp} {x y : Blk} (h : BCv H x y) : y.open_ = x.open_ := by cases h <;> rfl
theorem BCv.cellsI {H : Hp} {y : Blk} {sz ver : Nat} {rows' : List (List AV)} {fz : Bool} (h : BCv H y (.cells sz ver rows' fz)) :
    ∃ rows, y = .cells sz ver rows fz ∧ rows'.length = rows.length ∧ ∀ (i : Nat) (r' : List AV), rows'[i]? = some r' → ∃ r, rows[i]? = some r ∧ CvL H r r' := by
  cases h with
  | refl => exact ⟨_, rfl, rfl, fun i r h => ⟨r, h, CvL.refl r⟩⟩
  | cells _ _ rows _ _ hl h => exact ⟨rows, rfl, hl, h⟩
theorem BCv.iterI {H : Hp} {y : Blk} {s : ByteArray} {pos : Nat} (h : BCv H y (.iter s pos)) : y = .iter s pos := by cases h; rfl
theorem BCv.mapI {H : Hp} {y : Blk} {es : List (Value × Value)} (h : BCv H y (.map es)) : y = .map es := by cases h; rfl

theorem sub_own {ms : List Nat} {H H0 : Hp} (hs : Sub ms H H0) (ρ : Rho) (g : Nat) (h : Own H0.bs (ρ.into ms H H0) g) : Own H.bs ρ g := by
  obtain ⟨b, x, hx, hg, hn, ho⟩ := Own.open.1 h
  obtain ⟨y, hy, hc⟩ := hs.blk b x hx (hs.low b x hx)
  exact Own.open.2 ⟨ridx ms H.nxt b, _, hy, hg, hn, by rw [← hc.open_, Blk.ren_open]; exact ho⟩

theorem sub_mut {ms : List Nat} {H H0 : Hp} (hs : Sub ms H H0) (ρ : Rho) (g : Nat) (h : Mut H0.bs (ρ.into ms H H0) g) : Mut H.bs ρ g := by
  rcases h with h | h
  · exact h.1
  · exact .inr (sub_own hs ρ g h)

/-- A value's blocks are below a bound. -/
inductive Low (n : Nat) : AV → Prop
  | iv (x : IV) : Low n (.iv x)
  | own (b ver off len : Nat) (h : b < n) : Low n (.own b ver off len)
  | ptr (b ver i j : Nat) (h : b < n) : Low n (.ptr b ver i j)
  | ip (cs : List IV) (j : Nat) : Low n (.ip cs j)
  | it (b : Nat) (h : b < n) : Low n (.it b)
  | mp (b : Nat) (h : b < n) : Low n (.mp b)
  | fn (f : Fn) (caps : List AV) (h : ∀ x ∈ caps, Low n x) : Low n (.fn f caps)
  | junk : Low n .junk

theorem arep_into {ms : List Nat} {H H0 : Hp} {ρ : Rho} {w : World} (hs : Sub ms H H0) : ∀ {x : AV}, Low H0.nxt x → ∀ {v : Value}, ARep H ρ w (x.ren (ridx ms H.nxt)) v → ARep H0 (ρ.into ms H H0) w x v := by
  intro x hl
  induction hl with
  | iv x =>
    intro v h
    simp only [AV.ren] at h
    cases h with
    | iv _ _ h => exact .iv _ _ (h.keep (fun _ _ _ => rfl) (Nat.le_refl _) (fun g _ hg => sub_mut hs ρ g hg))
  | own b ver off len hb =>
    intro v h
    simp only [AV.ren] at h
    cases h with
    | own _ _ _ _ _ _ h1 h =>
      refine .own _ _ _ _ _ hb h1 fun sz v' rows fz hg => ?_
      obtain ⟨y, hy, hc⟩ := hs.blk b _ hg hb
      obtain ⟨rows0, rfl, hl, _⟩ := hc.cellsI
      have := h sz v' _ fz hy
      rw [← hl] at this
      simpa using this
  | ptr b ver i j hb =>
    intro v h
    simp only [AV.ren] at h
    cases h with
    | ptr _ _ _ _ _ _ h1 h =>
      refine .ptr _ _ _ _ _ hb h1 fun sz v' rows fz hg => ?_
      obtain ⟨y, hy, hc⟩ := hs.blk b _ hg hb
      obtain ⟨rows0, rfl, hl, _⟩ := hc.cellsI
      exact h sz v' _ fz hy
  | ip cs j =>
    intro v h
    simp only [AV.ren] at h
    cases h with
    | ip _ _ g o cv hm hlt hc hr => exact .ip _ _ g o cv (fun hg => hm (sub_mut hs ρ g hg)) hlt hc (fun i x hx => (hr i x hx).keep (fun _ _ _ => rfl) (Nat.le_refl _) (fun g _ hg => sub_mut hs ρ g hg))
  | it b hb =>
    intro v h
    simp only [AV.ren] at h
    cases h with
    | it _ _ _ h1 h =>
      refine .it _ _ hb h1 fun s pos hg => ?_
      obtain ⟨y, hy, hc⟩ := hs.blk b _ hg hb
      have := hc.iterI
      subst this
      exact h s pos hy
  | mp b hb =>
    intro v h
    simp only [AV.ren] at h
    cases h with
    | mp _ _ _ h1 h =>
      refine .mp _ _ hb h1 fun es hg => ?_
      obtain ⟨y, hy, hc⟩ := hs.blk b _ hg hb
      have := hc.mapI
      subst this
      exact h es hy
  | fn f caps hc ih =>
    intro v h
    simp only [AV.ren] at h
    cases h with
    | fn _ _ cv vs hsz hv hr =>
      refine .fn f caps cv vs (by rw [hsz, rens_length]) (fun i x hx => hv i _ (by rw [rens_get, hx]; rfl)) (fun i x hx => ih x (List.mem_of_getElem? hx) (hr i _ (by rw [rens_get, hx]; rfl)))
  | junk =>
    intro v h
    simp only [AV.ren] at h
    exact .junk _ h.one

inductive LLow (n : Nat) : LV → Prop
  | one (x : AV) (h : Low n x) : LLow n (.one x)
  | agg (cs : List AV) (h : ∀ x ∈ cs, Low n x) : LLow n (.agg cs)

theorem lrep_into {ms : List Nat} {H H0 : Hp} {ρ : Rho} {w : World} (hs : Sub ms H H0) {x : LV} (hl : LLow H0.nxt x) {v : Value} (h : LRep H ρ w (x.ren (ridx ms H.nxt)) v) : LRep H0 (ρ.into ms H H0) w x v := by
  cases hl with
  | one x hl =>
    simp only [LV.ren] at h
    cases h with
    | one _ _ h => exact .one _ _ (arep_into hs hl h)
  | agg cs hl =>
    simp only [LV.ren] at h
    cases h with
    | agg _ vs cv h1 h2 h3 =>
      exact .agg cs vs cv (by rw [h1, rens_length]) (fun i x hx => h2 i _ (by rw [rens_get, hx]; rfl)) (fun i x hx => arep_into hs (hl x (List.mem_of_getElem? hx)) (h3 i _ (by rw [rens_get, hx]; rfl)))

/-- All that stands in a heap's blocks is below its bound. -/
def Closed (H : Hp) : Prop := ∀ b sz ver rows fz, H.bs.get b = some (.cells sz ver rows fz) → ∀ row ∈ rows, ∀ x ∈ row, Low H.nxt x

theorem hrep_into {ms : List Nat} {H H0 : Hp} {ρ : Rho} {w : World} (hs : Sub ms H H0) (hc : Closed H0) (hH : HRep H ρ w) : HRep H0 (ρ.into ms H H0) w := by
  refine ⟨fun g hg => ?_, fun b x hx hn hg => ?_, fun b x hx => ?_, hs.low, fun b x hx hn => ?_, fun b b' x x' hx hx' hn hn' hg => ?_⟩
  · rcases hg.1 with h | ⟨b, x, hx, rfl, hn, _⟩
    · exact hH.xlt g h
    · exact hH.glt b x hx hn
  · obtain ⟨hm, hno⟩ := hg
    obtain ⟨z, hb, hcv⟩ := hs.blk b x hx (hs.low b x hx)
    rcases hm with h | h
    · exact hH.xno _ _ hb hn h
    · obtain ⟨i, y, hy, hgy, hny, hoy⟩ := Own.open.1 h
      have := hH.apart _ _ _ _ hy hb hny hn hgy
      subst this
      rw [hb] at hy
      simp only [Option.some.injEq] at hy
      subst hy
      rw [← hcv.open_, Blk.ren_open] at hoy
      exact hno ⟨b, x, hx, rfl, hn, hoy⟩
  · obtain ⟨z, hb, hcv⟩ := hs.blk b x hx (hs.low b x hx)
    have h0 := hH.blk _ _ hb
    cases x with
    | cells sz ver rows fz =>
      obtain ⟨rows0, rfl, hl, hrow⟩ := hcv.cellsI
      obtain ⟨h1, h2, h3, h4, h5, h6⟩ := h0
      rw [List.length_map] at hl
      refine ⟨fun i row hi => ?_, h2, by rw [hl]; exact h3, by rw [hl]; exact h4, h5, fun hn => ?_⟩
      · obtain ⟨r, hr, hcl⟩ := hrow i (rens (ridx ms H.nxt) row) (by simp [hi])
        have := hcl.length
        rw [rens_length] at this
        rw [this]; exact h1 i r hr
      · obtain ⟨cs, e, k1, k2, k3⟩ := h6 hn
        refine ⟨cs, e, k1, k2, fun i row j y hi hj => ?_⟩
        obtain ⟨r, hr, hcl⟩ := hrow i (rens (ridx ms H.nxt) row) (by simp [hi])
        obtain ⟨x0, hx0, hcv0⟩ := hcl.get j (y.ren (ridx ms H.nxt)) (by rw [rens_get, hj]; rfl)
        obtain ⟨u, hu, hrr⟩ := k3 i r j x0 hr hx0
        exact ⟨u, hu, arep_into hs (hc b sz ver rows fz hx row (List.mem_of_getElem? hi) y (List.mem_of_getElem? hj)) (hcv0.rep hH hrr)⟩
    | iter s pos =>
      have := hcv.iterI
      subst this
      exact h0
    | map es =>
      have := hcv.mapI
      subst this
      exact h0
  · obtain ⟨z, hb, hcv⟩ := hs.blk b x hx (hs.low b x hx)
    exact hH.glt _ _ hb hn
  · obtain ⟨z, hb, hcv⟩ := hs.blk b x hx (hs.low b x hx)
    obtain ⟨z', hb', hcv'⟩ := hs.blk b' x' hx' (hs.low b' x' hx')
    exact ridx_inj hs.nodup hs.lt (hH.apart _ _ _ _ hb hb' hn hn' hg)

/-! ### back from the callee -/
def Bs.without (ms : List Nat) : Bs → Bs
  | [] => []
  | (b, x) :: r => if ms.contains b then Bs.without ms r else (b, x) :: Bs.without ms r

theorem Bs.get_without (ms : List Nat) (l : Bs) (b : Nat) : (Bs.without ms l).get b = if ms.contains b then none else l.get b := by
  induction l with
  | nil => simp [Bs.without, Bs.get]
  | cons p r ih =>
    obtain ⟨a, x⟩ := p
    simp only [Bs.without]
    split
    · rename_i h
      rw [ih, Bs.get_cons]
      by_cases hab : a = b
      · subst hab; rw [if_pos h, if_pos h]
      · rw [if_neg hab]
    · rename_i h
      rw [Bs.get_cons, Bs.get_cons, ih]
      by_cases hab : a = b
      · subst hab; rw [if_pos rfl, if_neg h, if_pos rfl]
      · rw [if_neg hab, if_neg hab]

/-- The heap behind a call. -/
def Hp.back (H : Hp) (ms : List Nat) (H' : Hp) : Hp := ⟨Bs.ren (ridx ms H.nxt) H'.bs ++ Bs.without ms H.bs, H.nxt + H'.nxt⟩

theorem Bs.get_append (a b : Bs) (n : Nat) : Bs.get (a ++ b) n = (Bs.get a n).or (Bs.get b n) := by
  induction a with
  | nil => simp [Bs.get]
  | cons p r ih =>
    obtain ⟨i, x⟩ := p
    simp only [List.cons_append, Bs.get_cons, ih]
    split <;> simp

/-- Where blocks lie behind a call. -/
noncomputable def rback (ms : List Nat) (base : Nat) (ρ' ρ : Rho) : Rho := ⟨fun i => open Classical in if h : ∃ b, ridx ms base b = i then ρ' h.choose else ρ i, ρ.X⟩

theorem rback_ridx {ms : List Nat} {base : Nat} (hn : ms.Nodup) (hlt : ∀ i ∈ ms, i < base) (ρ' ρ : Rho) (b : Nat) : (rback ms base ρ' ρ) (ridx ms base b) = ρ' b := by
  unfold rback
  have h : ∃ b', ridx ms base b' = ridx ms base b := ⟨b, rfl⟩
  simp only [dif_pos h]
  congr 1
  exact ridx_inj hn hlt h.choose_spec

theorem rback_other {ms : List Nat} {base : Nat} (ρ' ρ : Rho) {i : Nat} (h1 : ms.contains i = false) (h2 : i < base) : (rback ms base ρ' ρ) i = ρ i := by
  unfold rback
  simp only
  rw [dif_neg]
  rintro ⟨b, hb⟩
  unfold ridx at hb
  cases hq : ms[b]? with
  | none => simp only [hq] at hb; omega
  | some j =>
    simp only [hq] at hb
    subst hb
    have := List.mem_of_getElem? hq
    simp at h1
    exact h1 this

structure BackOK (ms : List Nat) (H H0 : Hp) (ρ : Rho) (w : World) (H' : Hp) (ρ' : Rho) (w' : World) : Prop where
  sub : Sub ms H H0
  hH : HRep H ρ w
  hH' : HRep H' ρ' w'
  ext : Ext H0 (ρ.into ms H H0) w H' ρ' w'

theorem BackOK.get {ms : List Nat} {H H0 : Hp} {ρ : Rho} {w : World} {H' : Hp} {ρ' : Rho} {w' : World} (k : BackOK ms H H0 ρ w H' ρ' w') (i : Nat) (x : Blk) (h : (H.back ms H').bs.get i = some x) :
    (∃ b y, i = ridx ms H.nxt b ∧ H'.bs.get b = some y ∧ x = y.ren (ridx ms H.nxt)) ∨ (ms.contains i = false ∧ i < H.nxt ∧ H.bs.get i = some x) := by
  simp only [Hp.back, Bs.get_append] at h
  cases hq : (Bs.ren (ridx ms H.nxt) H'.bs).get i with
  | some y =>
    simp only [hq, Option.some_or, Option.some.injEq] at h
    subst h
    have hm := Bs.get_mem hq
    simp only [Bs.ren, List.mem_map, Prod.mk.injEq] at hm
    obtain ⟨⟨b, z⟩, hz, hb, hy⟩ := hm
    simp only at hb hy
    subst hb
    rw [Bs.get_ren _ (fun a b _ e => ridx_inj k.sub.nodup k.sub.lt e)] at hq
    cases hg : H'.bs.get b with
    | none => simp [hg] at hq
    | some z' =>
      simp only [hg, Option.map_some, Option.some.injEq] at hq
      exact .inl ⟨b, z', rfl, hg, hq.symm⟩
  | none =>
    simp only [hq, Option.none_or] at h
    rw [Bs.get_without] at h
    split at h
    · cases h
    · rename_i hc
      exact .inr ⟨by simpa using hc, k.hH.lt _ _ h, h⟩

/-- The real blocks that the callee's blocks lie in: the caller's, or new ones. -/
theorem BackOK.place {ms : List Nat} {H H0 : Hp} {ρ : Rho} {w : World} {H' : Hp} {ρ' : Rho} {w' : World} (k : BackOK ms H H0 ρ w H' ρ' w') {b : Nat} {y : Blk} (h : H'.bs.get b = some y) (hn : (ρ' b).isNil = false) :
    w.heap.size ≤ (ρ' b).g ∨ ∃ c z, ms.contains c = true ∧ H.bs.get c = some z ∧ (ρ c).isNil = false ∧ (ρ c).g = (ρ' b).g := by
  by_cases hlt : (ρ' b).g < w.heap.size
  · right
    obtain ⟨c, z, h1, h2, h3⟩ := k.ext.place b y h hn hlt
    have hc := k.sub.low c z h1
    obtain ⟨z', hz', _⟩ := k.sub.blk c z h1 hc
    refine ⟨ridx ms H.nxt c, _, ?_, hz', h2, h3⟩
    have hl : c < ms.length := by rw [← k.sub.nxt]; exact hc
    simp [ridx, List.getElem?_eq_getElem hl]
  · left; omega

theorem BackOK.same {ms : List Nat} {H H0 : Hp} {ρ : Rho} {w : World} {H' : Hp} {ρ' : Rho} {w' : World} (k : BackOK ms H H0 ρ w H' ρ' w') {i : Nat} {x : Blk} (hc : ms.contains i = false) (hx : H.bs.get i = some x) (hn : (ρ i).isNil = false) :
    w'.heap[(ρ i).g]? = w.heap[(ρ i).g]? := by
  refine k.ext.keeps _ (k.hH.glt i x hx hn) ?_
  rintro ⟨b, z, hb, hg, hn', ho⟩
  obtain ⟨z', hz', _⟩ := k.sub.blk b z hb (k.sub.low b z hb)
  have := k.hH.apart i _ x _ hx hz' hn hn' hg.symm
  have hl : b < ms.length := by rw [← k.sub.nxt]; exact k.sub.low b z hb
  rw [this] at hc
  simp [ridx, List.getElem?_eq_getElem hl] at hc

theorem ridx_low {ms : List Nat} {base b : Nat} (h : ridx ms base b < base) (hlt : ∀ i ∈ ms, i < base) : b < ms.length := by
  unfold ridx at h
  cases hq : ms[b]? with
  | none => simp only [hq] at h; omega
  | some i => exact (List.getElem?_eq_some_iff.1 hq).1

theorem ridx_mem {ms : List Nat} {base b : Nat} (h : b < ms.length) : ms.contains (ridx ms base b) = true := by
  simp [ridx, List.getElem?_eq_getElem h]

theorem back_ext {ms : List Nat} {H H0 : Hp} {ρ : Rho} {w : World} {H' : Hp} {ρ' : Rho} {w' : World} (k : BackOK ms H H0 ρ w H' ρ' w') :
    Ext H ρ w (H.back ms H') (rback ms H.nxt ρ' ρ) w' := by
  have hr := fun b => rback_ridx (base := H.nxt) k.sub.nodup k.sub.lt ρ' ρ b
  refine ⟨by simp [Hp.back], fun i sz ver rows' fz' hi h => ?_, fun i s pos' hi h => ?_, fun i es' hi h => ?_, fun g hg hm => ?_, k.ext.size, fun g hg hm => ?_, fun g h => h, fun g _ h => .inl h, fun i x hx hn hg => ?_, k.ext.os, k.ext.tape, k.ext.output⟩
  · rcases k.get i _ h with ⟨b, y, rfl, hy, e⟩ | ⟨hc, hlt, hx⟩
    · obtain ⟨r0, rfl, rfl⟩ := Blk.ren_cells e.symm
      have hb := ridx_low hi k.sub.lt
      obtain ⟨sz0, v0, rows, fz, h1, h2, h3⟩ := k.ext.cells b sz ver r0 fz' (by rw [k.sub.nxt]; exact hb) hy
      obtain ⟨z, hz, hcv⟩ := k.sub.blk b _ h1 (by rw [k.sub.nxt]; exact hb)
      obtain ⟨rows0, rfl, hl, _⟩ := hcv.cellsI
      rw [List.length_map] at hl
      refine ⟨sz0, v0, rows0, fz, hz, h2, fun hv => ?_⟩
      obtain ⟨q1, q2, q3⟩ := h3 hv
      exact ⟨q1, by rw [← hl]; simpa using q2, by rw [hr]; exact q3⟩
    · exact ⟨sz, ver, rows', fz', hx, Nat.le_refl _, fun _ => ⟨rfl, Nat.le_refl _, rback_other ρ' ρ hc hlt⟩⟩
  · rcases k.get i _ h with ⟨b, y, rfl, hy, e⟩ | ⟨hc, hlt, hx⟩
    · have hb := ridx_low hi k.sub.lt
      cases y with
      | iter s0 p0 =>
        simp only [Blk.ren, Blk.iter.injEq] at e
        obtain ⟨rfl, rfl⟩ := e
        obtain ⟨pos, h1, h2⟩ := k.ext.iter b s pos' (by rw [k.sub.nxt]; exact hb) hy
        obtain ⟨z, hz, hcv⟩ := k.sub.blk b _ h1 (by rw [k.sub.nxt]; exact hb)
        have := hcv.iterI
        subst this
        exact ⟨pos, hz, by rw [hr]; exact h2⟩
      | cells => cases e
      | map => cases e
    · exact ⟨pos', hx, rback_other ρ' ρ hc hlt⟩
  · rcases k.get i _ h with ⟨b, y, rfl, hy, e⟩ | ⟨hc, hlt, hx⟩
    · have hb := ridx_low hi k.sub.lt
      cases y with
      | map s0 =>
        simp only [Blk.ren, Blk.map.injEq] at e
        subst e
        obtain ⟨pos, h1, h2⟩ := k.ext.map b es' (by rw [k.sub.nxt]; exact hb) hy
        obtain ⟨z, hz, hcv⟩ := k.sub.blk b _ h1 (by rw [k.sub.nxt]; exact hb)
        have := hcv.mapI
        subst this
        exact ⟨pos, hz, by rw [hr]; exact h2⟩
      | cells => cases e
      | iter => cases e
    · exact ⟨es', hx, rback_other ρ' ρ hc hlt⟩
  · exact k.ext.keeps g hg fun h => hm (sub_own k.sub ρ g h)
  · obtain ⟨i, x, hx, hgi, hn, ho⟩ := hm
    rcases k.get i _ hx with ⟨b, y, rfl, hy, e⟩ | ⟨hc, hlt, hx'⟩
    · rw [hr] at hgi hn
      refine sub_own k.sub ρ g (k.ext.muts g hg ⟨b, y, hy, hgi, hn, fun sz ver rows he => ?_⟩)
      subst he
      exact ho _ _ _ (by rw [e]; rfl)
    · rw [rback_other ρ' ρ hc hlt] at hgi hn
      exact ⟨i, x, hx', hgi, hn, ho⟩
  · rcases k.get i _ hx with ⟨b, y, rfl, hy, e⟩ | ⟨hc, hlt, hx'⟩
    · rw [hr] at hn hg ⊢
      rcases k.place hy hn with h | ⟨c, z, _, h2, h3, h4⟩
      · omega
      · exact ⟨c, z, h2, h3, h4⟩
    · rw [rback_other ρ' ρ hc hlt] at hn hg ⊢
      exact ⟨i, x, hx', hn, rfl⟩

theorem back_mut {ms : List Nat} {H H0 : Hp} {ρ : Rho} {w : World} {H' : Hp} {ρ' : Rho} {w' : World} (k : BackOK ms H H0 ρ w H' ρ' w') (g : Nat) (h : Mut (H.back ms H').bs (rback ms H.nxt ρ' ρ) g) : Mut H'.bs ρ' g := by
  have hr := fun b => rback_ridx (base := H.nxt) k.sub.nodup k.sub.lt ρ' ρ b
  have hX : ∀ g, Mut H.bs ρ g → (∀ b x, H0.bs.get b = some x → (ρ (ridx ms H.nxt b)).g = g → (ρ (ridx ms H.nxt b)).isNil = false → False) → Mut H'.bs ρ' g := by
    intro g hm hno
    left
    exact k.ext.X g ⟨hm, fun ⟨b, x, h1, h2, h3, _⟩ => hno b x h1 h2 h3⟩
  rcases h with h | h
  · exact hX g (.inl h) fun b x h1 h2 h3 => by
      obtain ⟨z, hz, _⟩ := k.sub.blk b x h1 (k.sub.low b x h1)
      exact k.hH.xno _ _ hz h3 (by rw [h2]; exact h)
  · obtain ⟨i, x, hx, hgi, hn, ho⟩ := Own.open.1 h
    rcases k.get i _ hx with ⟨b, y, rfl, hy, e⟩ | ⟨hc, hlt, hx'⟩
    · rw [hr] at hgi hn
      subst e
      rw [Blk.ren_open] at ho
      exact .inr (Own.open.2 ⟨b, y, hy, hgi, hn, ho⟩)
    · rw [rback_other ρ' ρ hc hlt] at hgi hn
      refine hX g (.inr (Own.open.2 ⟨i, x, hx', hgi, hn, ho⟩)) fun b z h1 h2 h3 => ?_
      obtain ⟨z', hz', _⟩ := k.sub.blk b z h1 (k.sub.low b z h1)
      have := k.hH.apart _ _ _ _ hz' hx' h3 hn (by omega)
      have hm := ridx_mem (base := H.nxt) (show b < ms.length by rw [← k.sub.nxt]; exact k.sub.low b z h1)
      rw [this, hc] at hm
      cases hm

/-- Out of the callee. -/
theorem arep_back {ms : List Nat} {H H0 : Hp} {ρ : Rho} {w : World} {H' : Hp} {ρ' : Rho} {w' : World} (k : BackOK ms H H0 ρ w H' ρ' w') {x : AV} {v : Value} (h : ARep H' ρ' w' x v) :
    ARep (H.back ms H') (rback ms H.nxt ρ' ρ) w' (x.ren (ridx ms H.nxt)) v := by
  have hr := fun b => rback_ridx (base := H.nxt) k.sub.nodup k.sub.lt ρ' ρ b
  have hlow : ∀ b, b < H'.nxt → ridx ms H.nxt b < (H.back ms H').nxt := by
    intro b hb
    simp only [Hp.back, ridx]
    split
    · rename_i i hi
      have := k.sub.lt i (List.mem_of_getElem? hi)
      omega
    · omega
  have hmut := back_mut k
  induction h with
  | iv x v h =>
    simp only [AV.ren]
    exact .iv _ _ (h.keep (fun _ _ _ => rfl) (Nat.le_refl _) (fun g _ hg => hmut g hg))
  | own b ver off len v hb h1 h =>
    simp only [AV.ren]
    refine .own _ _ _ _ _ (hlow b hb) h1 fun sz v' rows fz hg => ?_
    rcases k.get _ _ hg with ⟨b', y, e1, hy, e2⟩ | ⟨hc, hlt, hx⟩
    · have := ridx_inj k.sub.nodup k.sub.lt e1
      subst this
      obtain ⟨r0, rfl, rfl⟩ := Blk.ren_cells e2.symm
      have := h sz v' r0 fz hy
      rw [hr]
      simpa using this
    · exfalso
      have := ridx_mem (ridx_low hlt k.sub.lt) (base := H.nxt)
      rw [hc] at this; cases this
  | ptr b ver i j v hb h1 h =>
    simp only [AV.ren]
    refine .ptr _ _ _ _ _ (hlow b hb) h1 fun sz v' rows fz hg => ?_
    rcases k.get _ _ hg with ⟨b', y, e1, hy, e2⟩ | ⟨hc, hlt, hx⟩
    · have := ridx_inj k.sub.nodup k.sub.lt e1
      subst this
      obtain ⟨r0, rfl, rfl⟩ := Blk.ren_cells e2.symm
      have := h sz v' r0 fz hy
      rw [hr]
      exact this
    · exfalso
      have := ridx_mem (ridx_low hlt k.sub.lt) (base := H.nxt)
      rw [hc] at this; cases this
  | ip cs j g o cv hm hlt hc hrr =>
    simp only [AV.ren]
    exact .ip _ _ g o cv (fun hg => hm (hmut g hg)) hlt hc (fun i x hx => (hrr i x hx).keep (fun _ _ _ => rfl) (Nat.le_refl _) (fun g _ hg => hmut g hg))
  | it b v hb h1 h =>
    simp only [AV.ren]
    refine .it _ _ (hlow b hb) h1 fun s pos hg => ?_
    rcases k.get _ _ hg with ⟨b', y, e1, hy, e2⟩ | ⟨hc, hlt, hx⟩
    · have := ridx_inj k.sub.nodup k.sub.lt e1
      subst this
      cases y with
      | iter s0 p0 =>
        simp only [Blk.ren, Blk.iter.injEq] at e2
        obtain ⟨rfl, rfl⟩ := e2
        rw [hr]
        exact h s pos hy
      | cells => cases e2
      | map => cases e2
    · exfalso
      have := ridx_mem (ridx_low hlt k.sub.lt) (base := H.nxt)
      rw [hc] at this; cases this
  | mp b v hb h1 h =>
    simp only [AV.ren]
    refine .mp _ _ (hlow b hb) h1 fun es hg => ?_
    rcases k.get _ _ hg with ⟨b', y, e1, hy, e2⟩ | ⟨hc, hlt, hx⟩
    · have := ridx_inj k.sub.nodup k.sub.lt e1
      subst this
      cases y with
      | map s0 =>
        simp only [Blk.ren, Blk.map.injEq] at e2
        subst e2
        rw [hr]
        exact h es hy
      | cells => cases e2
      | iter => cases e2
    · exfalso
      have := ridx_mem (ridx_low hlt k.sub.lt) (base := H.nxt)
      rw [hc] at this; cases this
  | fn f caps cv vs hs hv hrr ih =>
    simp only [AV.ren]
    refine .fn f _ cv vs (by rw [hs, rens_length]) (fun i x hx => ?_) (fun i x hx => ?_)
    · rw [rens_get] at hx
      cases hq : caps[i]? with
      | none => simp [hq] at hx
      | some y => exact hv i y hq
    · rw [rens_get] at hx
      cases hq : caps[i]? with
      | none => simp [hq] at hx
      | some y =>
        simp only [hq, Option.map_some, Option.some.injEq] at hx
        subst hx
        exact ih i y hq
  | junk v h1 =>
    simp only [AV.ren]
    exact .junk v h1

theorem lrep_back {ms : List Nat} {H H0 : Hp} {ρ : Rho} {w : World} {H' : Hp} {ρ' : Rho} {w' : World} (k : BackOK ms H H0 ρ w H' ρ' w') {x : LV} {v : Value} (h : LRep H' ρ' w' x v) :
    LRep (H.back ms H') (rback ms H.nxt ρ' ρ) w' (x.ren (ridx ms H.nxt)) v := by
  induction h with
  | one x v h => exact .one _ _ (arep_back k h)
  | agg cs vs cv h1 h2 h3 =>
    simp only [LV.ren]
    refine .agg _ vs cv (by rw [h1, rens_length]) (fun i x hx => ?_) (fun i x hx => ?_)
    · rw [rens_get] at hx
      cases hq : cs[i]? with
      | none => simp [hq] at hx
      | some y => exact h2 i y hq
    · rw [rens_get] at hx
      cases hq : cs[i]? with
      | none => simp [hq] at hx
      | some y =>
        simp only [hq, Option.map_some, Option.some.injEq] at hx
        subst hx
        exact arep_back k (h3 i y hq)
  | tup xs vs cv h1 h2 h3 ih =>
    simp only [LV.ren]
    refine .tup _ vs cv (by rw [h1, lrens_length]) (fun i x hx => ?_) (fun i x hx => ?_)
    · rw [lrens_get] at hx
      cases hq : xs[i]? with
      | none => simp [hq] at hx
      | some y => exact h2 i y hq
    · rw [lrens_get] at hx
      cases hq : xs[i]? with
      | none => simp [hq] at hx
      | some y =>
        simp only [hq, Option.map_some, Option.some.injEq] at hx
        subst hx
        exact ih i y hq

theorem hrep_back {ms : List Nat} {H H0 : Hp} {ρ : Rho} {w : World} {H' : Hp} {ρ' : Rho} {w' : World} (k : BackOK ms H H0 ρ w H' ρ' w') :
    HRep (H.back ms H') (rback ms H.nxt ρ' ρ) w' := by
  have hr := fun b => rback_ridx (base := H.nxt) k.sub.nodup k.sub.lt ρ' ρ b
  have e := back_ext k
  refine ⟨fun g hg => Nat.lt_of_lt_of_le (k.hH.xlt g hg) k.ext.size, fun i x hx hn hg => ?_, fun i x hx => ?_, fun i x hx => ?_, fun i x hx hn => ?_, fun i j x y hx hy hn hn' hg => ?_⟩
  · rcases k.get i _ hx with ⟨b, y, rfl, hy, e'⟩ | ⟨hc, hlt, hx'⟩
    · rw [hr] at hn hg
      rcases k.place hy hn with h | ⟨c, z, _, h2, h3, h4⟩
      · have := k.hH.xlt _ hg; omega
      · exact k.hH.xno c z h2 h3 (by rw [h4]; exact hg)
    · rw [rback_other ρ' ρ hc hlt] at hn hg
      exact k.hH.xno i x hx' hn hg
  · rcases k.get i _ hx with ⟨b, y, rfl, hy, e'⟩ | ⟨hc, hlt, hx'⟩
    · rw [hr]
      have h0 := k.hH'.blk b y hy
      subst e'
      cases y with
      | cells sz ver rows fz =>
        obtain ⟨h1, h2, h3, h4, h5, h6⟩ := h0
        refine ⟨fun i row hi => ?_, h2, by simpa using h3, by simpa using h4, h5, fun hn => ?_⟩
        · simp only [List.getElem?_map] at hi
          cases hq : rows[i]? with
          | none => simp [hq] at hi
          | some r =>
            simp only [hq, Option.map_some, Option.some.injEq] at hi
            subst hi
            rw [rens_length]; exact h1 i r hq
        · obtain ⟨cs, el, q1, q2, q3⟩ := h6 hn
          refine ⟨cs, el, q1, q2, fun i row j z hi hj => ?_⟩
          simp only [List.getElem?_map] at hi
          cases hq : rows[i]? with
          | none => simp [hq] at hi
          | some r =>
            simp only [hq, Option.map_some, Option.some.injEq] at hi
            subst hi
            rw [rens_get] at hj
            cases hq2 : r[j]? with
            | none => simp [hq2] at hj
            | some y =>
              simp only [hq2, Option.map_some, Option.some.injEq] at hj
              subst hj
              obtain ⟨u, hu, hrr⟩ := q3 i r j y hq hq2
              exact ⟨u, hu, arep_back k hrr⟩
      | iter s pos => exact h0
      | map es => exact h0
    · rw [rback_other ρ' ρ hc hlt]
      have h0 := k.hH.blk i x hx'
      cases x with
      | cells sz ver rows fz =>
        obtain ⟨h1, h2, h3, h4, h5, h6⟩ := h0
        refine ⟨h1, h2, h3, h4, h5, fun hn => ?_⟩
        obtain ⟨cs, el, q1, q2, q3⟩ := h6 hn
        refine ⟨cs, el, (k.same hc hx' hn).trans q1, q2, fun p row j z hp hj => ?_⟩
        obtain ⟨u, hu, hrr⟩ := q3 p row j z hp hj
        exact ⟨u, hu, hrr.keep e⟩
      | iter s pos => exact ⟨h0.1, (k.same hc hx' h0.1).trans h0.2⟩
      | map es =>
        obtain ⟨hn, m, c, q1, q2⟩ := h0
        exact ⟨hn, m, c, (k.same hc hx' hn).trans q1, q2⟩
  · rcases k.get i _ hx with ⟨b, y, rfl, hy, e'⟩ | ⟨hc, hlt, hx'⟩
    · have hb := k.hH'.lt b y hy
      simp only [Hp.back, ridx]
      split
      · rename_i q hq
        have := k.sub.lt q (List.mem_of_getElem? hq)
        omega
      · omega
    · simp only [Hp.back]; omega
  · rcases k.get i _ hx with ⟨b, y, rfl, hy, e'⟩ | ⟨hc, hlt, hx'⟩
    · rw [hr] at hn ⊢
      exact k.hH'.glt b y hy hn
    · rw [rback_other ρ' ρ hc hlt] at hn ⊢
      exact Nat.lt_of_lt_of_le (k.hH.glt i x hx' hn) k.ext.size
  · have aux : ∀ b y i x, H'.bs.get b = some y → (ρ' b).isNil = false → ms.contains i = false → H.bs.get i = some x → (ρ i).isNil = false → (ρ' b).g = (ρ i).g → False := by
      intro b y i x hy hn hc hx hn' hg
      rcases k.place hy hn with h | ⟨c, z, h1, h2, h3, h4⟩
      · have := k.hH.glt i x hx hn'; omega
      · have := k.hH.apart c i z x h2 hx h3 hn' (by omega)
        subst this
        rw [h1] at hc; cases hc
    rcases k.get i _ hx with ⟨b, y1, rfl, hy1, e1⟩ | ⟨hc, hlt, hx'⟩
    · rcases k.get j _ hy with ⟨b2, y2, rfl, hy2, e2⟩ | ⟨hc2, hlt2, hx2⟩
      · rw [hr] at hn hg
        rw [hr] at hn' hg
        rw [k.hH'.apart b b2 y1 y2 hy1 hy2 hn hn' hg]
      · rw [hr] at hn hg
        rw [rback_other ρ' ρ hc2 hlt2] at hn' hg
        exact (aux b y1 j y hy1 hn hc2 hx2 hn' hg).elim
    · rcases k.get j _ hy with ⟨b2, y2, rfl, hy2, e2⟩ | ⟨hc2, hlt2, hx2⟩
      · rw [rback_other ρ' ρ hc hlt] at hn hg
        rw [hr] at hn' hg
        exact (aux b2 y2 i x hy2 hn' hc hx' hn hg.symm).elim
      · rw [rback_other ρ' ρ hc hlt] at hn hg
        rw [rback_other ρ' ρ hc2 hlt2] at hn' hg
        exact k.hH.apart i j x y hx' hx2 hn hn' hg
end Go.Av

