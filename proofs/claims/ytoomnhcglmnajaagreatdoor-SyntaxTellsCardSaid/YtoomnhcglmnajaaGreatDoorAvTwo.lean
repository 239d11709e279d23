/-
  A predicate transformer over resolved code, sound for the model; no condition.
-/
import Derived.Test.YtoomnhcglmnajaaGreatDoorAvOne
set_option linter.unusedVariables false
set_option linter.unusedSimpArgs false
namespace Go.Av
open Go.RowKit

/-- How a call ends. -/
inductive AE where
  | ret (lv : LV)
  | pan (v : Value)

def ERep (H : Hp) (ρ : Rho) (w : World) : AE → Ending → Prop
  | .ret lv, .returned v => LRep H ρ w lv v
  | .pan v, .panicked chain => chain = [{ v, recovered := false }]
  | _, _ => False

/-- The variables of the library that hold an error. -/
def ErrVar (P : Program) (g : Nat) : Prop := P.globalNamed "strconv.ErrSyntax" = some g ∨ P.globalNamed "strconv.ErrRange" = some g

/-- What is known of the variables: they hold what they may, and are none of one's own blocks. -/
def GW (P : Program) (ρ : Rho) (w : World) : Prop := ∀ g, ErrVar P g → ρ.X g ∧ ∃ ev, w.cell? ⟨g, 0, none⟩ = some ev ∧ (ev = .nilIface ∨ ∃ te pe, ev = .iface te pe)

theorem GW.ext {P : Program} {H H' : Hp} {ρ ρ' : Rho} {w w' : World} (h : GW P ρ w) (hH : HRep H ρ w) (e : Ext H ρ w H' ρ' w') : GW P ρ' w' := by
  intro g hg
  obtain ⟨hx, ev, hc, hv⟩ := h g hg
  refine ⟨e.X g hx, ev, e.keeps.cell ?_ hc, hv⟩
  rintro ⟨b, x, h1, h2, h3, _⟩
  exact hH.xno b x h1 h3 (by rw [h2]; exact hx)

theorem GW.into {P : Program} {H H0 : Hp} {ρ : Rho} {w : World} {ms : List Nat} (h : GW P ρ w) (hs : Sub ms H H0) (hH : HRep H ρ w) : GW P (ρ.into ms H H0) w := by
  intro g hg
  obtain ⟨hx, h'⟩ := h g hg
  refine ⟨⟨.inl hx, ?_⟩, h'⟩
  rintro ⟨b, x, h1, h2, h3, h4⟩
  obtain ⟨y, h5, _⟩ := hs.blk b x h1 (hs.low b x h1)
  exact hH.xno _ y h5 h3 (by rw [h2]; exact hx)

/-- What a call does, in terms of the abstract heap. -/
def CallsA (P : Program) (f : FuncId) (args : List LV) (H0 : Hp) (Q : AE → Hp → Prop) : Prop :=
  ∀ (ρ : Rho) (w : World) (vs : Array Value), GW P ρ w → HRep H0 ρ w → vs.size = args.length → (∀ (i : Nat) (lv : LV), args[i]? = some lv → ∃ u, vs[i]? = some u ∧ LRep H0 ρ w lv u) →
    Calls P f vs w fun e w' => ∃ H' ρ' ae, Q ae H' ∧ ERep H' ρ' w' ae e ∧ HRep H' ρ' w' ∧ Ext H0 ρ w H' ρ' w'

theorem CallsA.mono {P : Program} {f : FuncId} {args : List LV} {H0 : Hp} {Q Q' : AE → Hp → Prop} (h : CallsA P f args H0 Q) (hq : ∀ ae H, Q ae H → Q' ae H) : CallsA P f args H0 Q' :=
  fun ρ w vs h0 h1 h2 h3 => (h ρ w vs h0 h1 h2 h3).mono fun e w' ⟨H', ρ', ae, k1, k2⟩ => ⟨H', ρ', ae, hq _ _ k1, k2⟩

inductive CvLVs (H : Hp) : List LV → List LV → Prop
  | nil : CvLVs H [] []
  | cons {x y : LV} {r r' : List LV} (h : CvLV H x y) (hr : CvLVs H r r') : CvLVs H (x :: r) (y :: r')

theorem CvLVs.length {H : Hp} {l l' : List LV} (h : CvLVs H l l') : l'.length = l.length := by
  induction h with
  | nil => rfl
  | cons _ _ ih => simp [ih]

theorem CvLVs.get {H : Hp} {l l' : List LV} (h : CvLVs H l l') : ∀ (i : Nat) (y : LV), l'[i]? = some y → ∃ x, l[i]? = some x ∧ CvLV H x y := by
  induction h with
  | nil => intro i y h; simp at h
  | cons h _ ih =>
    intro i y hy
    rcases i with _ | i
    · simp at hy; subst hy; exact ⟨_, rfl, h⟩
    · exact ih i y (by simpa using hy)

/-- The heap, some of its blocks frozen, some rows of nothing laid beside. -/
def Hp.prep (hp : Hp) (fz szs : List Nat) : Hp := (hp.freeze fz).ghost szs

theorem prep_rep {H : Hp} {ρ : Rho} {w : World} (fz szs : List Nat) (hs : ∀ s ∈ szs, 0 < s) (hH : HRep H ρ w) : ∃ ρ', HRep (H.prep fz szs) ρ' w ∧ Ext H ρ w (H.prep fz szs) ρ' w := by
  obtain ⟨ρ', h1, h2⟩ := ghost_rep szs (H.freeze fz) hs (freeze_rep fz hH)
  exact ⟨ρ', h1, (freeze_ext fz).trans h2⟩

/-- A call, seen from the caller. -/
def acall (P : Program) (f : FuncId) (args : List LV) (hp : Hp) (K : LV → Hp → Prop) (Kp : Value → Hp → Prop) : Prop :=
  ∃ (fz szs : List Nat) (ms : List Nat) (H0 : Hp) (args0 : List LV) (Q0 : AE → Hp → Prop), CallsA P f args0 H0 Q0 ∧ (∀ s ∈ szs, 0 < s) ∧ Sub ms (hp.prep fz szs) H0 ∧ Closed H0 ∧ (∀ x ∈ args0, LLow H0.nxt x) ∧
    CvLVs (hp.prep fz szs) args (lrens (ridx ms (hp.prep fz szs).nxt) args0) ∧
    ∀ ae H', Q0 ae H' → match ae with
      | .ret lv => K (lv.ren (ridx ms (hp.prep fz szs).nxt)) ((hp.prep fz szs).back ms H')
      | .pan v => Kp v ((hp.prep fz szs).back ms H')

theorem acall_sound {P : Program} {f : FuncId} {args : List LV} {H : Hp} {K : LV → Hp → Prop} {Kp : Value → Hp → Prop} (h : acall P f args H K Kp) {ρ : Rho} {w : World} (hG : GW P ρ w) (hH : HRep H ρ w) {vs : Array Value} (hs : vs.size = args.length)
    (ha : ∀ (i : Nat) (lv : LV), args[i]? = some lv → ∃ u, vs[i]? = some u ∧ LRep H ρ w lv u) :
    Calls P f vs w fun e w' => ∃ H' ρ', (match e with
      | .returned v => ∃ lv, K lv H' ∧ LRep H' ρ' w' lv v
      | .panicked chain => ∃ v, Kp v H' ∧ chain = [{ v, recovered := false }]
      | .outgrown => False) ∧ HRep H' ρ' w' ∧ Ext H ρ w H' ρ' w' := by
  obtain ⟨fz, szs, ms, H0, args0, Q0, h1, hsz, h2, h3, h4, hcv, h5⟩ := h
  obtain ⟨ρ1, hH1, e1⟩ := prep_rep fz szs hsz hH
  generalize H.prep fz szs = H1 at *
  have hlen := hcv.length
  rw [lrens_length] at hlen
  refine (h1 (ρ1.into ms H1 H0) w vs ((hG.ext hH e1).into h2 hH1) (hrep_into h2 h3 hH1) (by rw [hs, hlen]) fun i lv hi => ?_).mono ?_
  · obtain ⟨x, hx, hc⟩ := hcv.get i (lv.ren (ridx ms H1.nxt)) (by rw [lrens_get, hi]; rfl)
    obtain ⟨u, hu, hr⟩ := ha i x hx
    exact ⟨u, hu, lrep_into h2 (h4 lv (List.mem_of_getElem? hi)) (hc.rep hH1 (hr.keep e1))⟩
  · rintro e w' ⟨H', ρ', ae, hq, he, hH', hx⟩
    have k : BackOK ms H1 H0 ρ1 w H' ρ' w' := ⟨h2, hH1, hH', hx⟩
    refine ⟨H1.back ms H', rback ms H1.nxt ρ' ρ1, ?_, hrep_back k, e1.trans (back_ext k)⟩
    have hk := h5 ae H' hq
    cases ae with
    | ret lv =>
      cases e with
      | returned v => exact ⟨_, hk, lrep_back k he⟩
      | panicked => cases he
      | outgrown => cases he
    | pan v =>
      cases e with
      | returned => cases he
      | panicked chain => exact ⟨v, hk, he⟩
      | outgrown => cases he

/-! ### code -/
structure ROp where
  d : Option Nat
  k : RK
  g : Option (Nat × Bool) := none

/-- An operation of a region whose order is drawn: does a call turn the heap, may it panic; which turning ones ahead of it may come behind it, which looking ones; is it kept what it saw. -/
structure DOp where
  r : ROp
  w : Bool
  p : Bool
  ub : List Nat
  ua : List Nat
  sv : Bool
  sp : Bool

inductive RC where
  | skip
  | reg (ops : List ROp)
  | dreg (ops : List (ROp × Bool))
  | greg (ops : List DOp)
  | seq (a b : RC)
  | cond (c : Od) (a b : RC)
  | block (id : Nat) (a : RC)
  | loop (a : RC)
  | exit (id : Nat)
  | ret

inductive AX where
  | normal
  | exit (id : Nat)
  | ret
  | pan (v : Value)

def tput (tm : Tm) (d : Option Nat) (v : LV) : Tm := match d with
  | some d => (d, v) :: tm
  | none => tm

/-- A slot's value is set where it stands. -/
def tset (tm : Tm) (t : Nat) (v : LV) : Tm := match tm with
  | [] => []
  | (a, x) :: r => if a = t then (a, v) :: r else (a, x) :: tset r t v

def brk (b : Bool) (A B : Prop) : Prop := (b = true → A) ∧ (b = false → B)

/-- A function that has a body. -/
def HasB (P : Program) (g : FuncId) : Prop := ∃ fn : Func, P.funcs[g]? = some fn ∧ fn.body.isNone = false ∧ (fn.name == "runtime.NumGoroutine") = false

/-- A function's value: which one, what it has caught. -/
def fnOf : LV → Option (FuncId × List AV)
  | .one (.iv (.sc (.func (.func g) fs cs))) => if fs.toList.isEmpty && cs.toList.isEmpty then some (g, []) else none
  | .one (.fn (.func g) caps) => some (g, caps)
  | _ => none

/-- What is known of a slice: its length is a machine's. -/
def lenOk (hp : Hp) : LV → Prop
  | .one (.iv (.sl _ rows)) => rows.length ≤ 140737488355328
  | .one (.own b ver _ len) => hp.live b ver = true → len ≤ 140737488355328
  | _ => True

/-- What an operation lets one know. -/
def grant (tm : Tm) (hp : Hp) : RK → Prop
  | .len x => match odv tm x with
    | some v => lenOk hp v
    | none => True
  | _ => True

theorem lenOk_rep {hp : Hp} {ρ : Rho} {w : World} (hH : HRep hp ρ w) {lv : LV} {v : Value} (h : LRep hp ρ w lv v) : lenOk hp lv := by
  unfold lenOk
  split
  · cases h with
    | one _ _ h => cases h with
      | iv _ _ h => cases h with
        | sl => assumption
  · intro hl
    unfold Hp.live at hl
    split at hl
    · rename_i sz v rows fz hg
      simp only [beq_iff_eq] at hl
      subst hl
      obtain ⟨h1, _⟩ := h.ownI hg
      obtain ⟨_, _, _, h2, _⟩ := hH.blk _ _ hg
      omega
    · cases hl
  · trivial

theorem grant_rep {hp : Hp} {ρ : Rho} {w : World} {tm : Tm} {a : Act} (hT : TRep hp ρ w tm a) (hH : HRep hp ρ w) (k : RK) : grant tm hp k := by
  cases k <;> simp only [grant]
  rename_i x
  cases x with
  | t n =>
    simp only [odv]
    cases h : tm.get n with
    | none => trivial
    | some lv => exact lenOk_rep hH (hT n lv h)
  | c v => trivial

def aop1 (P : Program) (tm : Tm) (hp : Hp) (k : RK) (K : LV → Hp → Prop) (Kp : Value → Hp → Prop) : Prop :=
  match k with
  | .call f args => match odvs tm args with
    | some l => acall P f l hp K Kp
    | none => False
  | .callv f args => match odv tm f with
    | some v => match fnOf v with
      | some (g, caps) => match odvs tm args with
        | some l => HasB P g ∧ acall P g (l ++ caps.map .one) hp K Kp
        | none => False
      | none => False
    | none => False
  | .panic x => match odv tm x with
    | some v => match v.val with
      | some (.iface t u) => Kp (.iface t u) hp
      | _ => False
    | none => False
  | k => match aop tm hp k with
    | some r => r.pre ∧ (grant tm hp k → K r.lv r.hp)
    | none => False

def aops (P : Program) : List ROp → (Tm → Hp → Prop) → (Value → Hp → Prop) → Tm → Hp → Prop
  | [], K, _, tm, hp => K tm hp
  | o :: r, K, Kp, tm, hp =>
    match o.g with
    | none => aop1 P tm hp o.k (fun lv hp' => aops P r K Kp (tput tm o.d lv) hp') Kp
    | some (j, want) => match tm.get j with
      | some (.one (.iv (.sc (.bool b)))) =>
        brk b
          (if want then aop1 P (tset tm j (.one (.iv (.sc (.bool true))))) hp o.k (fun lv hp' => aops P r K Kp (tput (tset tm j (.one (.iv (.sc (.bool true))))) o.d lv) hp') Kp
            else aops P r K Kp (tput (tset tm j (.one (.iv (.sc (.bool true))))) o.d (.tup [])) hp)
          (if want then aops P r K Kp (tput (tset tm j (.one (.iv (.sc (.bool false))))) o.d (.tup [])) hp
            else aop1 P (tset tm j (.one (.iv (.sc (.bool false))))) hp o.k (fun lv hp' => aops P r K Kp (tput (tset tm j (.one (.iv (.sc (.bool false))))) o.d lv) hp') Kp)
      | some (.tup []) => aops P r K Kp (tput tm o.d (.tup [])) hp
      | _ => False

/-- 0: it looks at slots alone; 1: it reads the heap; 2: it turns the heap. -/
def RK.cls : RK → Nat
  | .mov _ | .pick .. | .build .. | .isnil .. | .capn _ | .bin .. | .bins .. | .binb .. | .not _ | .neg _ | .iconv .. | .i2s _ | .s2s _ | .mkif .. | .mkfn .. | .sslice .. | .sindex .. | .extract .. | .slen _ | .min .. | .max .. => 0
  | .box imm _ _ => if imm then 0 else 2
  | .bslice imm _ _ => if imm then 0 else 2
  | .load .. | .nilc _ | .slice .. | .faddr .. | .iaddr .. | .len _ | .b2s _ => 1
  | _ => 2

/-- Does an operation look at the heap, or turn it? (A call's w says so.) -/
def RK.looks (k : RK) (w : Bool) : Bool := match k with
  | .call _ _ | .callv _ _ => true
  | .panic _ => true
  | k => k.cls != 0
def RK.turns (k : RK) (w : Bool) : Bool := match k with
  | .call _ _ | .callv _ _ => w
  | .panic _ => true
  | k => k.cls == 2

/-- An operation of a region whose order is drawn. -/
def dop1 (P : Program) (tm : Tm) (hp : Hp) (w : Bool) (k : RK) (K : LV → Hp → Prop) : Prop :=
  match k with
  | .len x => match aop tm hp (.len x) with
    | some r => r.pre ∧ K r.lv hp
    | none => False
  | k => ∃ lv h1, aop1 P tm hp k (fun lv' hp' => lv' = lv ∧ hp' = h1) (fun _ _ => False) ∧ (k.turns w = false → h1 = hp) ∧ K lv h1

def adraw (P : Program) : List (ROp × Bool) → (Tm → Hp → Prop) → Tm → Hp → Prop
  | [], K, tm, hp => K tm hp
  | (o, w) :: r, K, tm, hp =>
    match o.g with
    | none => dop1 P tm hp w o.k (fun lv hp' => adraw P r K (tput tm o.d lv) hp')
    | some (j, want) => match tm.get j with
      | some (.one (.iv (.sc (.bool b)))) => brk (b == want) (dop1 P tm hp w o.k (fun lv hp' => adraw P r K (tput tm o.d lv) hp')) (adraw P r K (tput tm o.d (.tup [])) hp)
      | some (.tup []) => adraw P r K (tput tm o.d (.tup [])) hp
      | _ => False

/-- What an operation that looks comes to is the same at another heap. -/
def Same (P : Program) (tm : Tm) (h : Hp) (k : RK) (lv : LV) : Prop := aop1 P tm h k (fun lv' hp' => lv' = lv ∧ hp' = h) (fun _ _ => False)

structure Pd where
  i : Nat
  k : RK
  tm : Tm
  lv : LV

def gchk1 (P : Program) (tm : Tm) (k : RK) (lv : LV) (ub : List Nat) : List (Nat × Hp) → Prop
  | [] => True
  | (j, h) :: r => (if ub.contains j = true then Same P tm h k lv else True) ∧ gchk1 P tm k lv ub r
def gchk2 (P : Program) (h : Hp) (ua : List Nat) : List Pd → Prop
  | [] => True
  | y :: r => (if ua.contains y.i = true then Same P y.tm h y.k y.lv else True) ∧ gchk2 P h ua r

/-- What an operation comes to, and what heap it leaves. -/
def gop1 (P : Program) (tm : Tm) (hp : Hp) (k : RK) (lv : LV) (h1 : Hp) : Prop :=
  match k with
  | .len x => ∃ r, aop tm hp (.len x) = some r ∧ r.pre ∧ lv = r.lv ∧ h1 = hp
  | k => aop1 P tm hp k (fun lv' hp' => lv' = lv ∧ hp' = h1) (fun _ _ => False)

def ggo (P : Program) (o : DOp) (hs : List (Nat × Hp)) (ps : List Pd) (i : Nat) (tm : Tm) (hp : Hp) (next : List (Nat × Hp) → List Pd → Nat → Tm → Hp → Prop) (Kp : Value → Hp → Prop) : Prop :=
  (∃ lv h1, gop1 P tm hp o.r.k lv h1 ∧ (o.r.k.turns o.w = false → h1 = hp) ∧ gchk1 P tm o.r.k lv o.ub hs ∧ gchk2 P h1 o.ua ps ∧
    next (if o.sv then (i, hp) :: hs else hs) (if o.sp then ⟨i, o.r.k, tm, lv⟩ :: ps else ps) (i + 1) (tput tm o.r.d lv) h1) ∨
  (o.p = true ∧ aop1 P tm hp o.r.k (fun _ _ => False) Kp)

def gd (P : Program) : List DOp → (Tm → Hp → Prop) → (Value → Hp → Prop) → List (Nat × Hp) → List Pd → Nat → Tm → Hp → Prop
  | [], K, _, _, _, _, tm, hp => K tm hp
  | o :: r, K, Kp, hs, ps, i, tm, hp =>
    match o.r.g with
    | none => ggo P o hs ps i tm hp (fun hs ps i tm hp => gd P r K Kp hs ps i tm hp) Kp
    | some (j, want) => match tm.get j with
      | some (.one (.iv (.sc (.bool b)))) => brk (b == want) (ggo P o hs ps i tm hp (fun hs ps i tm hp => gd P r K Kp hs ps i tm hp) Kp)
          (gchk2 P hp o.ua ps ∧ gd P r K Kp (if o.sv then (i, hp) :: hs else hs) ps (i + 1) (tput tm o.r.d (.tup [])) hp)
      | some (.tup []) => gchk2 P hp o.ua ps ∧ gd P r K Kp (if o.sv then (i, hp) :: hs else hs) ps (i + 1) (tput tm o.r.d (.tup [])) hp
      | _ => False

/-- A state told in another way: less of it, other numbers. -/
def Wk (k : Nat) (tm : Tm) (hp : Hp) (tm0 : Tm) (hp0 : Hp) : Prop :=
  ∃ fz szs ms : List Nat, (∀ s ∈ szs, 0 < s) ∧ Sub ms (hp.prep fz szs) hp0 ∧ Closed hp0 ∧ (∀ b, b < k → ms[b]? = some b) ∧
    ∀ t lv, tm0.get t = some lv → LLow hp0.nxt lv ∧ ∃ lv', tm.get t = some lv' ∧ CvLV (hp.prep fz szs) lv' (lv.ren (ridx ms (hp.prep fz szs).nxt))

/-- A loop, by what holds at each round's head. -/
def aloop (k : Nat) (body : (AX → Tm → Hp → Prop) → Tm → Hp → Prop) (Q : AX → Tm → Hp → Prop) (tm : Tm) (hp : Hp) : Prop :=
  ∃ (σ : Type) (St : σ → Tm) (Hs : σ → Hp) (Inv : σ → Prop) (μ : σ → Nat), (∃ s, Inv s ∧ Wk k tm hp (St s) (Hs s)) ∧ ∀ s, Inv s → body (fun e tm' hp' => match e with
    | .normal => ∃ s', Inv s' ∧ μ s' < μ s ∧ Wk k tm' hp' (St s') (Hs s')
    | e => Q e tm' hp') (St s) (Hs s)

def awp (P : Program) (k : Nat) : RC → (AX → Tm → Hp → Prop) → Tm → Hp → Prop
  | .skip, Q, tm, hp => Q .normal tm hp
  | .reg ops, Q, tm, hp => aops P ops (Q .normal) (fun v hp => Q (.pan v) [] hp) tm hp
  | .dreg ops, Q, tm, hp => adraw P ops (Q .normal) tm hp
  | .greg ops, Q, tm, hp => gd P ops (Q .normal) (fun v hp => Q (.pan v) [] hp) [] [] 0 tm hp
  | .seq a b, Q, tm, hp => awp P k a (fun e tm' hp' => match e with
    | .normal => awp P k b Q tm' hp'
    | e => Q e tm' hp') tm hp
  | .cond c a b, Q, tm, hp => match c with
    | .t t => match tm.get t with
      | some (.one (.iv (.sc (.bool x)))) => brk x (awp P k a Q (tset tm t (.one (.iv (.sc (.bool true))))) hp) (awp P k b Q (tset tm t (.one (.iv (.sc (.bool false))))) hp)
      | _ => False
    | .c v => match v with
      | .bool x => brk x (awp P k a Q tm hp) (awp P k b Q tm hp)
      | _ => False
  | .block id a, Q, tm, hp => awp P k a (fun e tm' hp' => match e with
    | .exit i => if i = id then Q .normal tm' hp' else Q (.exit i) tm' hp'
    | e => Q e tm' hp') tm hp
  | .loop a, Q, tm, hp => aloop k (awp P k a) Q tm hp
  | .exit id, Q, tm, hp => Q (.exit id) tm hp
  | .ret, Q, tm, hp => Q .ret tm hp

/-! ### it is sound -/
/-- Where a function's run began. -/
structure Ent (P : Program) where
  H : Hp
  ρ : Rho
  w : World
  rep : HRep H ρ w
  gw : GW P ρ w
  D : List Deferred
  lo : Nat
  tms : Array Value

structure HInv {P : Program} (E : Ent P) (hp : Hp) (ρ : Rho) (w : World) : Prop where
  rep : HRep hp ρ w
  ext : Ext E.H E.ρ E.w hp ρ w

/-- A state of a run. -/
structure SInv {P : Program} (E : Ent P) (n : Nat) (tm : Tm) (hp : Hp) (a : Act) (w : World) (ρ : Rho) : Prop where
  tr : TRep hp ρ w tm a
  h : HInv E hp ρ w
  size : a.tmps.size = n
  defers : a.defers = E.D
  pin : ∀ t, t < E.lo → a.tmps[t]? = E.tms[t]?

def PostOf {P : Program} (E : Ent P) (n : Nat) (Q : AX → Tm → Hp → Prop) : Exit → Act → World → Prop
  | .normal, a, w => ∃ tm hp ρ, Q .normal tm hp ∧ SInv E n tm hp a w ρ
  | .exit id, a, w => ∃ tm hp ρ, Q (.exit id) tm hp ∧ SInv E n tm hp a w ρ
  | .ret, a, w => ∃ tm hp ρ, Q .ret tm hp ∧ SInv E n tm hp a w ρ
  | .panic chain, a, w => ∃ v hp ρ, Q (.pan v) [] hp ∧ chain = [{ v, recovered := false }] ∧ HInv E hp ρ w ∧ a.defers = E.D ∧ ∀ t, t < E.lo → a.tmps[t]? = E.tms[t]?
  | _, _, _ => False

/-- Operations that are no calls. -/
def RK.plain : RK → Bool
  | .call _ _ | .callv _ _ | .panic _ => false
  | _ => true

inductive KRel (P : Program) : Op → RK → Prop
  | plain (op : Op) (rk : RK) (hp : rk.plain = true) (h : Sound P op rk) : KRel P op rk
  | call (f : FuncId) (args : Array Operand) (ts : Array TypeId) (args' : List Od) (fn : Func) (h : rsvOds args.toList = some args') (hf : P.funcs[f]? = some fn) (hb : fn.body.isNone = false) (hn : (fn.name == "runtime.NumGoroutine") = false) :
      KRel P (.call { callee := .value (.func f), args := args, argTypes := ts }) (.call f args')
  | callv (x : Operand) (args : Array Operand) (ts : Array TypeId) (x' : Od) (args' : List Od) (hx : rsvOd x = some x') (h : rsvOds args.toList = some args') :
      KRel P (.call { callee := .value x, args := args, argTypes := ts }) (.callv x' args')
  | panic (x : Operand) (x' : Od) (hx : rsvOd x = some x') : KRel P (.panic x) (.panic x')

structure ORel (P : Program) (n lo : Nat) (ops : Array Oper) (o : Oper) (r : ROp) : Prop where
  d : r.d = o.dst
  lt : ∀ d, o.dst = some d → d < n
  ge : ∀ d, o.dst = some d → lo ≤ d
  g : match o.guard with
    | none => r.g = none
    | some (j, want) => ∃ oj t, ops[j]? = some oj ∧ oj.dst = some t ∧ r.g = some (t, want)
  k : KRel P o.op r.k

inductive OList (P : Program) (n lo : Nat) (ops : Array Oper) : List Nat → List ROp → Prop
  | nil : OList P n lo ops [] []
  | cons (i : Nat) (o : Oper) (r : ROp) (l : List Nat) (rl : List ROp) (ho : ops[i]? = some o) (h : ORel P n lo ops o r) (hr : OList P n lo ops l rl) : OList P n lo ops (i :: l) (r :: rl)

theorem TRep.put {H : Hp} {ρ : Rho} {w : World} {tm : Tm} {a : Act} {n : Nat} (hT : TRep H ρ w tm a) (hs : a.tmps.size = n) (d : Option Nat) (hd : ∀ t, d = some t → t < n) {lv : LV} {v : Value} (hv : LRep H ρ w lv v) : TRep H ρ w (tput tm d lv) (a.put d v) := by
  cases d with
  | none => exact hT
  | some d =>
    have hlt := hd d rfl
    intro t lv' h
    simp only [tput, Tm.get] at h
    simp only [Act.put]
    split at h
    · rename_i e
      subst e
      simp only [Option.some.injEq] at h
      subst h
      simp [Array.getD_eq_getD_getElem?, hs, hlt]
      exact hv
    · rename_i e
      have := hT t lv' h
      simp only [Array.getD_eq_getD_getElem?] at this ⊢
      rw [Array.getElem?_setIfInBounds_ne (by omega)]
      exact this

theorem put_size (a : Act) (d : Option Nat) (v : Value) : (a.put d v).tmps.size = a.tmps.size := by cases d <;> simp [Act.put]
theorem pin_put {P : Program} {E : Ent P} {a : Act} {d : Option Nat} {v : Value} (h : ∀ t, t < E.lo → a.tmps[t]? = E.tms[t]?) (hd : ∀ t, d = some t → E.lo ≤ t) : ∀ t, t < E.lo → (a.put d v).tmps[t]? = E.tms[t]? := by
  intro t ht
  cases d with
  | none => exact h t ht
  | some s =>
    have := hd s rfl
    simp only [Act.put]
    rw [Array.getElem?_setIfInBounds_ne (by omega)]
    exact h t ht
theorem put_defers (a : Act) (d : Option Nat) (v : Value) : (a.put d v).defers = a.defers := by cases d <;> rfl

theorem TRep.keep {H H' : Hp} {ρ ρ' : Rho} {w w' : World} (e : Ext H ρ w H' ρ' w') {tm : Tm} {a : Act} (hT : TRep H ρ w tm a) : TRep H' ρ' w' tm a := fun t lv h => (hT t lv h).keep e

theorem TRep.tset {H : Hp} {ρ : Rho} {w : World} {tm : Tm} {a : Act} (hT : TRep H ρ w tm a) {t : Nat} {lv lv' : LV} (h : tm.get t = some lv) (hr : LRep H ρ w lv' (a.tmps.getD t undef)) : TRep H ρ w (tset tm t lv') a := by
  have key : ∀ (tm : Tm) (s : Nat), (Av.tset tm t lv').get s = if s = t then (tm.get s).map fun _ => lv' else tm.get s := by
    intro tm s
    induction tm with
    | nil => simp [Av.tset, Tm.get]
    | cons p r ih =>
      obtain ⟨b, x⟩ := p
      simp only [Av.tset]
      split
      · rename_i e
        subst e
        simp only [Tm.get]
        by_cases hs : b = s
        · subst hs; simp
        · have : ¬ s = b := fun e => hs e.symm
          simp [hs, this]
      · rename_i e
        simp only [Tm.get, ih]
        by_cases hs : b = s
        · subst hs; simp [e]
        · simp [hs]
  intro s lv0 hs
  rw [key] at hs
  split at hs
  · rename_i e
    subst e
    rw [h] at hs
    simp only [Option.map_some, Option.some.injEq] at hs
    subst hs
    exact hr
  · exact hT s lv0 hs

theorem odvs_rep {H : Hp} {ρ : Rho} {w : World} {tm : Tm} {a : Act} (hT : TRep H ρ w tm a) : ∀ {xs : List Operand} {ys : List Od} {ls : List LV}, rsvOds xs = some ys → odvs tm ys = some ls →
    ls.length = xs.length ∧ ∀ (i : Nat) (lv : LV), ls[i]? = some lv → ∃ y, xs[i]? = some y ∧ LRep H ρ w lv (a.eval y)
  | [], ys, ls, h1, h2 => by
    simp only [rsvOds, Option.some.injEq] at h1
    subst h1
    simp only [odvs, Option.some.injEq] at h2
    subst h2
    simp
  | x :: xs, ys, ls, h1, h2 => by
    simp only [rsvOds] at h1
    split at h1
    · rename_i y ys' hy hys
      simp only [Option.some.injEq] at h1
      subst h1
      simp only [odvs] at h2
      split at h2
      · rename_i u us hu hus
        simp only [Option.some.injEq] at h2
        subst h2
        obtain ⟨h4, h5⟩ := odvs_rep hT hys hus
        refine ⟨by simp [h4], fun i z hz => ?_⟩
        rcases i with _ | i
        · simp at hz
          subst hz
          exact ⟨x, rfl, odv_rep hT hy hu⟩
        · exact h5 i z (by simpa using hz)
      · cases h2
    · cases h1

theorem aop1_sound {P : Program} {E : Ent P} {n : Nat} {tm : Tm} {hp : Hp} {a : Act} {w : World} {ρ : Rho} (hI : SInv E n tm hp a w ρ) {o : Oper} {rk : RK} (hk : KRel P o.op rk) {K : LV → Hp → Prop} {Kp : Value → Hp → Prop} (h : aop1 P tm hp rk K Kp)
    {next : Act → World → Prop} {Q : Exit → Act → World → Prop}
    (hnext : ∀ lv hp' ρ' v w', K lv hp' → LRep hp' ρ' w' lv v → HRep hp' ρ' w' → Ext hp ρ w hp' ρ' w' → next (a.put o.dst v) w')
    (hpan : ∀ v hp' ρ' w', Kp v hp' → HInv E hp' ρ' w' → Q (.panic [{ v, recovered := false }]) a w') :
    o.wp P a w next Q := by
  have callN : ∀ (f : FuncId) (fn : Func) (l : List LV) (vs : Array Value), P.funcs[f]? = some fn → acall P f l hp K Kp → vs.size = l.length → (∀ (i : Nat) (lv : LV), l[i]? = some lv → ∃ u, vs[i]? = some u ∧ LRep hp ρ w lv u) →
      (execOp a.eval o).run P w = .ok (.enter f vs) w → o.wp P a w next Q := by
    intro f fn l vs hf hc hs hv hrun
    unfold Oper.wp
    rw [hrun, Oper.upon_enter]
    refine (acall_sound hc (E.gw.ext E.rep hI.h.ext) hI.h.rep hs hv).mono ?_
    rintro e w' ⟨H', ρ', hm, hH', hx⟩
    cases e with
    | returned v =>
      obtain ⟨lv, h1, h2⟩ := hm
      exact hnext lv H' ρ' v w' h1 h2 hH' hx
    | panicked chain =>
      obtain ⟨v, h1, rfl⟩ := hm
      exact hpan v H' ρ' w' h1 ⟨hH', hI.h.ext.trans hx⟩
    | outgrown => exact hm.elim
  generalize hop : o.op = op at hk
  cases hk with
  | plain _ _ hpl hs =>
    have key : ∃ r, aop tm hp rk = some r ∧ r.pre ∧ K r.lv r.hp := by
      cases rk <;> simp only [RK.plain, Bool.false_eq_true] at hpl <;> simp only [aop1] at h <;> split at h <;> first | exact ⟨_, by assumption, h.1, h.2 (grant_rep hI.tr hI.h.rep _)⟩ | exact h.elim
    obtain ⟨r, hr, hpre, hK⟩ := key
    obtain ⟨nx, v, w', ρ', hrun, hval, hl, hH', hx⟩ := hs hp ρ w tm a o r hop hI.tr hI.h.rep hr hpre
    unfold Oper.wp
    rw [hrun]
    rcases hval with rfl | ⟨rfl, rfl⟩
    · exact hnext _ _ _ _ _ hK hl hH' hx
    · exact hnext _ _ _ _ _ hK hl hH' hx
  | call f args ts args' fn ha hf hb hn =>
    simp only [aop1] at h
    split at h
    · rename_i l hl
      obtain ⟨h1, h2⟩ := odvs_rep hI.tr ha hl
      refine callN f fn l (args.map a.eval) hf h (by simpa using h1.symm) (fun i lv hi => ?_) ?_
      · obtain ⟨y, hy, hr⟩ := h2 i lv hi
        exact ⟨a.eval y, by simpa using ⟨y, by simpa using hy, rfl⟩, hr⟩
      · have hn' : ¬ fn.name = "runtime.NumGoroutine" := by simpa using hn
        have hb' : ¬ fn.body = none := by intro h; rw [h] at hb; cases hb
        simp [execOp, hop, resolve, Act.eval, Deferred.ofValue, invoke, callFunc, hf, hn', hb']
    · exact h.elim
  | callv x args ts x' args' hx ha =>
    simp only [aop1] at h
    split at h
    · rename_i lv hf
      have hrep := odv_rep hI.tr hx hf
      split at h
      · rename_i g caps hfo
        have key : ∃ vs : Array Value, a.eval x = .func (.func g) #[] vs ∧ vs.size = caps.length ∧ ∀ (i : Nat) (z : AV), caps[i]? = some z → ∃ u, vs[i]? = some u ∧ ARep hp ρ w z u := by
          generalize hev : a.eval x = ev at hrep
          unfold fnOf at hfo
          split at hfo
          · rename_i g' fs cs
            split at hfo
            · rename_i he
              simp only [Option.some.injEq, Prod.mk.injEq] at hfo
              obtain ⟨rfl, rfl⟩ := hfo
              have e := hrep.scI
              simp only [Bool.and_eq_true, List.isEmpty_iff] at he
              have h1 : fs = #[] := by simpa using he.1
              have h2 : cs = #[] := by simpa using he.2
              subst h1; subst h2
              exact ⟨#[], e, rfl, by simp⟩
            · cases hfo
          · rename_i g' caps'
            simp only [Option.some.injEq, Prod.mk.injEq] at hfo
            obtain ⟨rfl, rfl⟩ := hfo
            cases hrep with
            | one _ _ hrep => cases hrep with
              | fn _ _ cv vs hs hv hr => exact ⟨vs, rfl, hs, fun i z hz => ⟨cv i, hv i z hz, hr i z hz⟩⟩
          · cases hfo
        obtain ⟨vs, hev, hs, hvr⟩ := key
        split at h
        · rename_i l hl
          obtain ⟨⟨fn, hfn, hb, hn⟩, hc⟩ := h
          obtain ⟨h1, h2⟩ := odvs_rep hI.tr ha hl
          have hl1 : (args.map a.eval).size = l.length := by simpa using h1.symm
          refine callN g fn (l ++ caps.map .one) (args.map a.eval ++ vs) hfn hc (by simp only [Array.size_append, hl1, hs, List.length_append, List.length_map]) (fun i lv hi => ?_) ?_
          · rw [List.getElem?_append] at hi
            split at hi
            · rename_i hlt
              obtain ⟨y, hy, hr'⟩ := h2 i lv hi
              refine ⟨a.eval y, ?_, hr'⟩
              rw [Array.getElem?_append_left (by omega)]
              simpa using ⟨y, by simpa using hy, rfl⟩
            · rename_i hge
              simp only [List.getElem?_map] at hi
              cases hq : caps[i - l.length]? with
              | none => simp [hq] at hi
              | some z =>
                simp only [hq, Option.map_some, Option.some.injEq] at hi
                subst hi
                obtain ⟨u, hu, hr'⟩ := hvr _ z hq
                refine ⟨u, ?_, .one _ _ hr'⟩
                rw [Array.getElem?_append_right (by omega), hl1]
                exact hu
          · have hn' : ¬ fn.name = "runtime.NumGoroutine" := by simpa using hn
            have hb' : ¬ fn.body = none := by intro h; rw [h] at hb; cases hb
            simp [execOp, hop, resolve, hev, Deferred.ofValue, invoke, callFunc, hfn, hn', hb']
        · exact h.elim
      · exact h.elim
    · exact h.elim
  | panic x x' hx =>
    simp only [aop1] at h
    split at h
    · rename_i lv hlv
      split at h
      · rename_i t u hu
        have e := LV.val_rep hu (odv_rep hI.tr hx hlv)
        unfold Oper.wp
        have hrun : (execOp a.eval o).run P w = .halt (.panic (.iface t u)) w := by
          simp [execOp, hop, e, Instr.panic]
        rw [hrun, Oper.upon_panic]
        exact hpan _ _ ρ _ h hI.h
      · exact h.elim
    · exact h.elim
end Go.Av

namespace Go.Av
open Go.RowKit

/-! ### orders -/
/-- The hard edges of an operation lead to operations that are done. -/
def ready (ops : Array Oper) (done : Nat → Bool) (i : Nat) : Prop := ∃ o, ops[i]? = some o ∧ ∀ e ∈ o.after.toList, Region.binds .any e = true → done e.on = true

inductive Valid (ops : Array Oper) : (Nat → Bool) → List Nat → Prop
  | nil (done : Nat → Bool) (h : ∀ i, i < ops.size → done i = true) : Valid ops done []
  | cons (done : Nat → Bool) (i : Nat) (l : List Nat) (h1 : done i = false) (h2 : ready ops done i) (hr : Valid ops (fun j => done j || j == i) l) : Valid ops done (i :: l)

theorem valid_congr {ops : Array Oper} {d d' : Nat → Bool} {l : List Nat} (h : ∀ i, i < ops.size → d i = d' i) (hv : Valid ops d l) (hin : ∀ (i : Nat) (o : Oper), ops[i]? = some o → ∀ e ∈ o.after.toList, Region.binds .any e = true → e.on < ops.size) : Valid ops d' l := by
  induction hv generalizing d' with
  | nil done hd => exact .nil _ fun i hi => by rw [← h i hi]; exact hd i hi
  | cons done i l h1 h2 hr ih =>
    obtain ⟨o, ho, he⟩ := h2
    have hi := (Array.getElem?_eq_some_iff.1 ho).1
    refine .cons _ i l (by rw [← h i hi]; exact h1) ⟨o, ho, fun e hm hb => ?_⟩ (ih fun j hj => by simp only [h j hj])
    rw [← h e.on (hin i o ho e hm hb)]
    exact he e hm hb

/-- The edges that bind lead down a rank. -/
def RankE (m : Region.Mode) (ops : Array Oper) (r : Nat → Nat) : Prop := ∀ (i : Nat) (o : Oper), ops[i]? = some o → ∀ e ∈ o.after.toList, Region.binds m e = true → e.on < ops.size ∧ r e.on < r i

theorem binds_any {m : Region.Mode} {e : Edge} (h : Region.binds .any e = true) : Region.binds m e = true := by
  unfold Region.binds at h ⊢
  split at h
  · simp at h
  · simp at h
  · rfl

theorem RankE.hin {m : Region.Mode} {ops : Array Oper} {r : Nat → Nat} (h : RankE m ops r) : ∀ (i : Nat) (o : Oper), ops[i]? = some o → ∀ e ∈ o.after.toList, Region.binds .any e = true → e.on < ops.size :=
  fun i o ho e he hb => (h i o ho e he (binds_any hb)).1

theorem go_valid (m : Region.Mode) (ops : Array Oper) (r : Nat → Nat) (hlow : RankE m ops r) :
    ∀ (fuel t : Nat) (listed : Array Bool) (acc : List Nat), listed.size = ops.size → ((List.range ops.size).filter fun i => !listed.getD i true).length ≤ fuel →
      ∃ l, Region.linearise.go m ops fuel t listed acc = acc.reverse ++ l ∧ Valid ops (fun i => listed.getD i false) l := by
  intro fuel
  induction fuel with
  | zero =>
    intro t listed acc hs hf
    refine ⟨[], by simp [Region.linearise.go], .nil _ fun i hi => ?_⟩
    have h0 : ((List.range ops.size).filter fun i => !listed.getD i true) = [] := List.eq_nil_of_length_eq_zero (by omega)
    have := List.filter_eq_nil_iff.1 h0 i (by simpa using hi)
    have hi' : i < listed.size := by omega
    simp [Array.getD, hi'] at this ⊢
    exact this
  | succ fuel ih =>
    intro t listed acc hs hf
    unfold Region.linearise.go
    simp only
    generalize hrs : ((List.range ops.size).filter fun i => !listed.getD i true && ((ops[i]?).map (·.after.all fun e => !Region.binds m e || listed.getD e.on false)).getD false) = rs
    have hmem : ∀ i, i ∈ rs ↔ i < ops.size ∧ listed.getD i true = false ∧ ∃ o, ops[i]? = some o ∧ ∀ e ∈ o.after.toList, Region.binds m e = true → listed.getD e.on false = true := by
      intro i
      rw [← hrs]
      simp only [List.mem_filter, List.mem_range, Bool.and_eq_true, Bool.not_eq_true']
      constructor
      · rintro ⟨h1, h2, h3⟩
        refine ⟨h1, h2, ops[i], by simp [h1], ?_⟩
        simp only [Array.getElem?_eq_getElem h1, Option.map_some, Option.getD_some] at h3
        intro e he hb
        have := (Array.all_eq_true'.1 h3) e (by simpa using he)
        simpa [hb] using this
      · rintro ⟨h1, h2, o, ho, h3⟩
        refine ⟨h1, h2, ?_⟩
        simp only [ho, Option.map_some, Option.getD_some]
        rw [Array.all_eq_true']
        intro e he
        have := h3 e (by simpa using he)
        cases hb : Region.binds m e with
        | false => simp
        | true => simpa [hb] using this hb
    cases hq : rs[t % rs.length]? with
    | none =>
      simp only
      refine ⟨[], by simp, .nil _ fun i hi => ?_⟩
      have hnil : rs = [] := by
        cases rs with
        | nil => rfl
        | cons x r =>
          have : t % (x :: r).length < (x :: r).length := Nat.mod_lt _ (by simp)
          rw [List.getElem?_eq_getElem this] at hq
          cases hq
      have key : ∀ n i, r i ≤ n → i < ops.size → listed.getD i false = true := by
        intro n
        induction n with
        | zero =>
          intro i him hi
          have hi' : i < listed.size := by omega
          by_cases hl : listed.getD i true = false
          · exfalso
            have : i ∈ rs := (hmem i).2 ⟨hi, hl, ops[i], by simp [hi], fun e he hb => by
              have := (hlow i ops[i] (by simp [hi]) e he hb).2; omega⟩
            rw [hnil] at this; cases this
          · simp [Array.getD, hi'] at hl ⊢; exact hl
        | succ n ihm =>
          intro i him hi
          have hi' : i < listed.size := by omega
          by_cases hl : listed.getD i true = false
          · exfalso
            have : i ∈ rs := (hmem i).2 ⟨hi, hl, ops[i], by simp [hi], fun e he hb => by
              have := hlow i ops[i] (by simp [hi]) e he hb
              exact ihm e.on (by omega) this.1⟩
            rw [hnil] at this; cases this
          · simp [Array.getD, hi'] at hl ⊢; exact hl
      exact key (r i) i (Nat.le_refl _) hi
    | some i =>
      simp only
      have hi := List.mem_of_getElem? hq
      obtain ⟨h1, h2, o, ho, h3⟩ := (hmem i).1 hi
      have hi' : i < listed.size := by omega
      obtain ⟨l, e1, e2⟩ := ih (t / rs.length) (listed.setIfInBounds i true) (i :: acc) (by simp [hs]) (by
        have hlt : ((List.range ops.size).filter fun j => !(listed.setIfInBounds i true).getD j true).length < ((List.range ops.size).filter fun j => !listed.getD j true).length := by
          have hsub : ((List.range ops.size).filter fun j => !(listed.setIfInBounds i true).getD j true) = ((List.range ops.size).filter fun j => !listed.getD j true).filter fun j => j != i := by
            rw [List.filter_filter]
            apply List.filter_congr
            intro j hj
            have hj' : j < listed.size := by rw [hs]; simpa using hj
            by_cases hji : i = j
            · subst hji; simp [Array.getD, hj']
            · have : ¬ j = i := fun e => hji e.symm
              simp [Array.getD, hj', Array.getElem_setIfInBounds, hji, this]
          rw [hsub]
          have hin : i ∈ ((List.range ops.size).filter fun j => !listed.getD j true) := List.mem_filter.2 ⟨by simpa using h1, by rw [h2]; rfl⟩
          exact List.length_filter_lt_length_iff_exists.2 ⟨i, hin, by simp⟩
        omega)
      refine ⟨i :: l, by rw [e1]; simp, .cons _ i l ?_ ⟨o, ho, fun e he hb => h3 e he (binds_any hb)⟩ (valid_congr (fun j hj => ?_) e2 hlow.hin)⟩
      · simp [Array.getD, hi'] at h2 ⊢; exact h2
      · have hj' : j < listed.size := by omega
        by_cases hji : i = j
        · subst hji; simp [Array.getD, hj']
        · have : (j == i) = false := by simp; exact fun e => hji e.symm
          simp [Array.getD, hj', Array.getElem_setIfInBounds, hji, this]

theorem linearise_valid (m : Region.Mode) (ops : Array Oper) (r : Nat → Nat) (hlow : RankE m ops r) (t : Nat) : Valid ops (fun _ => false) (Region.linearise m ops t) := by
  unfold Region.linearise
  obtain ⟨l, e1, e2⟩ := go_valid m ops r hlow ops.size t (Array.replicate ops.size false) [] (by simp) (by
    exact Nat.le_trans (List.length_filter_le _ _) (by simp))
  rw [e1]
  simp only [List.reverse_nil, List.nil_append]
  refine valid_congr (fun i hi => ?_) e2 hlow.hin
  simp [Array.getD, hi]

/-- A hard way from one operation to a later one. -/
inductive Anc (ops : Array Oper) : Nat → Nat → Prop
  | edge (i j : Nat) (o : Oper) (e : Edge) (ho : ops[j]? = some o) (he : e ∈ o.after.toList) (hb : Region.binds .any e = true) (hi : e.on = i) : Anc ops i j
  | trans (i j k : Nat) (h1 : Anc ops i j) (h2 : Anc ops j k) : Anc ops i k

/-- What is done is closed under hard ways. -/
def ClosedD (ops : Array Oper) (done : Nat → Bool) : Prop := ∀ i j, Anc ops i j → done j = true → done i = true

theorem anc_done {ops : Array Oper} {done : Nat → Bool} (hc : ClosedD ops done) {i j : Nat} (h : Anc ops i j) (hr : ready ops done j) : done i = true := by
  induction h with
  | edge i j o e ho he hb hi =>
    obtain ⟨o', ho', h⟩ := hr
    rw [ho] at ho'
    simp only [Option.some.injEq] at ho'
    subst ho'
    subst hi
    exact h e he hb
  | trans i j k h1 h2 ih1 ih2 => exact hc i j h1 (ih2 hr)

theorem closed_step {ops : Array Oper} {done : Nat → Bool} (hc : ClosedD ops done) {i : Nat} (hr : ready ops done i) : ClosedD ops (fun j => done j || j == i) := by
  intro a b hab hb
  simp only [Bool.or_eq_true, beq_iff_eq] at hb ⊢
  rcases hb with hb | rfl
  · exact .inl (hc a b hab hb)
  · exact .inl (anc_done hc hab hr)
end Go.Av

namespace Go.Av
open Go.RowKit

/-! ### what an operation reads -/
def RK.ods : RK → List Od
  | .mov x | .box _ _ x | .load _ _ x | .nilc x | .not x | .neg x | .iconv _ x | .i2s x | .s2s x | .b2s x | .mkif _ x | .faddr _ x | .srange x | .snext x | .extract x _ | .len x | .slen x | .panic x => [x]
  | .pick c a b => [c, a, b]
  | .alloc _ => []
  | .build _ ps => ps.map fun p => p.2.2
  | .bslice _ _ xs => xs
  | .store _ a v => [a, v]
  | .clear _ _ x | .isnil _ _ x | .capn x => [x]
  | .bins _ _ x y | .bin _ x y | .binb _ x y | .iaddr _ x y | .sindex x y | .min x y | .max x y | .append _ _ _ x y | .appn _ _ _ x y => [x, y]
  | .mkfn _ cs => cs
  | .sslice x lo hi | .slice _ x lo hi => x :: (lo.toList ++ hi.toList)
  | .call _ args => args
  | .callv f args => f :: args

def Agree (tm tm' : Tm) (l : List Od) : Prop := ∀ x ∈ l, odv tm x = odv tm' x

theorem bparts_congr {tm tm' : Tm} : ∀ {ps : List (Nat × Nat × Od)} {l : List AV}, Agree tm tm' (ps.map fun p => p.2.2) → bparts tm ps l = bparts tm' ps l
  | [], l, h => rfl
  | (off, sz, x) :: r, l, h => by
    have h1 := h x (by simp)
    simp only [bparts, h1]
    split
    · split
      · exact bparts_congr fun y hy => h y (by simp only [List.map_cons, List.mem_cons]; exact .inr hy)
      · rfl
    · rfl

theorem brows_congr {tm tm' : Tm} {sz : Nat} : ∀ {xs : List Od}, Agree tm tm' xs → brows tm sz xs = brows tm' sz xs
  | [], h => rfl
  | x :: r, h => by
    have h1 := h x (by simp)
    have h2 := brows_congr (sz := sz) (xs := r) fun y hy => h y (by simp [hy])
    simp only [brows, h1, h2]

theorem odvs_congr {tm tm' : Tm} : ∀ {xs : List Od}, Agree tm tm' xs → odvs tm xs = odvs tm' xs
  | [], h => rfl
  | x :: r, h => by
    have h1 := h x (by simp)
    have h2 := odvs_congr (xs := r) fun y hy => h y (by simp [hy])
    simp only [odvs, h1, h2]

theorem ob_congr {tm tm' : Tm} {d : Int} {x : Option Od} (h : Agree tm tm' x.toList) : ob tm d x = ob tm' d x := by
  cases x with
  | none => rfl
  | some x =>
    have h1 := h x (by simp)
    simp only [ob, h1]

theorem aslice_congr {hp : Hp} {tm tm' : Tm} {sz : Nat} {lo hi : Option Od} {v : LV} (h1 : Agree tm tm' lo.toList) (h2 : Agree tm tm' hi.toList) : aslice hp tm sz lo hi v = aslice hp tm' sz lo hi v := by
  unfold aslice
  split <;> simp only [ob_congr h1, ob_congr h2]

theorem aop_congr {tm tm' : Tm} {hp : Hp} {k : RK} (h : Agree tm tm' k.ods) : aop tm hp k = aop tm' hp k := by
  cases k <;> simp only [RK.ods] at h <;> simp only [aop]
  case mov x => rw [h x (by simp)]
  case pick c a b => rw [h c (by simp), h a (by simp), h b (by simp)]
  case box i s x => rw [h x (by simp)]
  case build z ps => rw [bparts_congr h]
  case bslice i s xs => rw [brows_congr h]
  case load a s x => rw [h x (by simp)]
  case store s a v => rw [h a (by simp), h v (by simp)]
  case nilc x => rw [h x (by simp)]
  case bin op x y => rw [h x (by simp), h y (by simp)]
  case binb op x y => rw [h x (by simp), h y (by simp)]
  case not x => rw [h x (by simp)]
  case neg x => rw [h x (by simp)]
  case iconv k x => rw [h x (by simp)]
  case i2s x => rw [h x (by simp)]
  case s2s x => rw [h x (by simp)]
  case mkif t x => rw [h x (by simp)]
  case mkfn f cs => rw [odvs_congr h]
  case sslice x lo hi =>
    rw [h x (by simp)]
    simp only [ob_congr (tm := tm) (tm' := tm') (x := lo) fun y hy => h y (by simp at hy; simp [hy]), ob_congr (tm := tm) (tm' := tm') (x := hi) fun y hy => h y (by simp at hy; simp [hy])]
  case slice s x lo hi =>
    rw [h x (by simp)]
    simp only [aslice_congr (tm := tm) (tm' := tm') (lo := lo) (hi := hi) (fun y hy => h y (by simp at hy; simp [hy])) (fun y hy => h y (by simp at hy; simp [hy]))]
  case faddr o x => rw [h x (by simp)]
  case iaddr s x i => rw [h x (by simp), h i (by simp)]
  case sindex x i => rw [h x (by simp), h i (by simp)]
  case srange x => rw [h x (by simp)]
  case snext x => rw [h x (by simp)]
  case extract x i => rw [h x (by simp)]
  case len x => rw [h x (by simp)]
  case slen x => rw [h x (by simp)]
  case min x y => rw [h x (by simp), h y (by simp)]
  case max x y => rw [h x (by simp), h y (by simp)]
  case append s b z x y => rw [h x (by simp), h y (by simp)]
  case appn s b z x y => rw [h x (by simp), h y (by simp)]
  case isnil i n x => rw [h x (by simp)]
  case capn x => rw [h x (by simp)]
  case bins n ks x y => rw [h x (by simp), h y (by simp)]
  case b2s x => rw [h x (by simp)]
  case clear s z x => rw [h x (by simp)]

theorem aop1_congr {P : Program} {tm tm' : Tm} {hp : Hp} {k : RK} {K : LV → Hp → Prop} {Kp : Value → Hp → Prop} (h : Agree tm tm' k.ods) (h1 : aop1 P tm hp k K Kp) : aop1 P tm' hp k K Kp := by
  have e := aop_congr (hp := hp) h
  cases k <;> simp only [aop1] at h1 ⊢ <;> first | (rw [← e]; exact h1) | skip
  case len x => rw [← e]; simp only [grant] at h1 ⊢; rw [← h x (by simp [RK.ods])]; exact h1
  case panic x => rw [← h x (by simp [RK.ods])]; exact h1
  case call f args => rw [← odvs_congr (tm := tm) (tm' := tm') (xs := args) h]; exact h1
  case callv f args =>
    rw [← h f (by simp [RK.ods]), ← odvs_congr (tm := tm) (tm' := tm') (xs := args) fun y hy => h y (by simp [RK.ods, hy])]
    exact h1

theorem aop_pure {tm : Tm} {hp hp2 : Hp} {k : RK} {r : R1} (hc : k.cls = 0) (h : aop tm hp k = some r) : aop tm hp2 k = some ⟨r.pre, r.lv, hp2⟩ ∧ r.hp = hp := by
  cases k <;> simp only [RK.cls] at hc <;> try (exact absurd hc (by decide))
  case box imm s x =>
    cases imm with
    | false => simp at hc
    | true =>
      simp only [aop, if_true] at h ⊢
      split at h
      · split at h
        · simp only [Option.some.injEq] at h; subst h; simp_all
        · cases h
      · cases h
  case bslice imm s x =>
    cases imm with
    | false => simp at hc
    | true =>
      simp only [aop, if_true] at h ⊢
      split at h
      · split at h
        · simp only [Option.some.injEq] at h; subst h; simp_all
        · cases h
      · cases h
  case min x y =>
    simp only [aop] at h ⊢
    split at h
    · simp only [Option.some.injEq] at h; subst h; exact ⟨rfl, rfl⟩
    · cases h
  case max x y =>
    simp only [aop] at h ⊢
    split at h
    · simp only [Option.some.injEq] at h; subst h; exact ⟨rfl, rfl⟩
    · cases h
  all_goals
    simp only [aop] at h ⊢
    repeat' (split at h)
    all_goals first
      | (cases h; done)
      | (simp only [Option.some.injEq] at h; subst h; simp_all; done)

theorem aop_reads {tm : Tm} {hp : Hp} {k : RK} {r : R1} (hc : k.cls = 1) (h : aop tm hp k = some r) : r.hp = hp := by
  cases k <;> simp only [RK.cls] at hc <;> try (exact absurd hc (by decide))
  case box imm s x => cases imm <;> simp at hc
  case bslice imm s x => cases imm <;> simp at hc
  case load a s x =>
    simp only [aop] at h
    split at h
    · unfold aload at h
      repeat' (split at h)
      all_goals first
        | (cases h; done)
        | (simp only [Option.some.injEq] at h; subst h; rfl)
    · cases h
  case slice s x lo hi =>
    simp only [aop] at h
    split at h
    · unfold aslice at h
      repeat' (split at h)
      all_goals first
        | (cases h; done)
        | (simp only [Option.some.injEq] at h; subst h; rfl)
    · cases h
  all_goals
    simp only [aop] at h
    repeat' (split at h)
    all_goals first
      | (cases h; done)
      | (simp only [Option.some.injEq] at h; subst h; rfl)

/-! ### a run in the order of the text, told op by op -/
structure Ev where
  r : ROp
  w : Bool
  act : Bool
  lv : LV
  h1 : Hp

def Ev.turns (e : Ev) : Bool := e.r.k.turns e.w

def GuardOK (tm : Tm) (e : Ev) : Prop := (e.r.g = none ∧ e.act = true) ∨ (∃ j want b, e.r.g = some (j, want) ∧ tm.get j = some (.one (.iv (.sc (.bool b)))) ∧ e.act = (b == want)) ∨ ∃ j want, e.r.g = some (j, want) ∧ tm.get j = some (.tup []) ∧ e.act = false

def EvOK (P : Program) (tm : Tm) (hp : Hp) (e : Ev) : Prop :=
  GuardOK tm e ∧ (e.act = true → aop1 P tm hp e.r.k (fun lv hp' => lv = e.lv ∧ hp' = e.h1) (fun _ _ => False)) ∧ (e.act = false → e.lv = .tup [] ∧ e.h1 = hp) ∧ (e.turns = false → e.h1 = hp)

def TraceOK (P : Program) : Tm → Hp → List Ev → Prop
  | _, _, [] => True
  | tm, hp, e :: r => EvOK P tm hp e ∧ TraceOK P (tput tm e.r.d e.lv) e.h1 r

def tmOf (tm : Tm) : List Ev → Tm
  | [] => tm
  | e :: r => tmOf (tput tm e.r.d e.lv) r
def hpOf (hp : Hp) : List Ev → Hp
  | [] => hp
  | e :: r => hpOf e.h1 r

theorem trace_at {P : Program} : ∀ {tr : List Ev} {tm : Tm} {hp : Hp}, TraceOK P tm hp tr → ∀ (i : Nat) (e : Ev), tr[i]? = some e → EvOK P (tmOf tm (tr.take i)) (hpOf hp (tr.take i)) e
  | [], tm, hp, h, i, e, he => by simp at he
  | x :: r, tm, hp, h, i, e, he => by
    rcases i with _ | i
    · simp at he; subst he; exact h.1
    · have := trace_at h.2 i e (by simpa using he)
      simpa [tmOf, hpOf] using this

/-! ### some of it done -/
def tmD (done : Nat → Bool) : Nat → List Ev → Tm → Tm
  | _, [], tm => tm
  | k, e :: r, tm => tmD done (k + 1) r (if done k then tput tm e.r.d e.lv else tm)

def hpD (done : Nat → Bool) : Nat → List Ev → Hp → Hp
  | _, [], h => h
  | k, e :: r, h => hpD done (k + 1) r (if done k && e.turns then e.h1 else h)

theorem tput_get (tm : Tm) (d : Option Nat) (v : LV) (t : Nat) : (tput tm d v).get t = if d = some t then some v else tm.get t := by
  cases d with
  | none => simp [tput]
  | some d =>
    simp only [tput, Tm.get, Option.some.injEq]

theorem tmD_congr (d d' : Nat → Bool) (t : Nat) : ∀ (tr : List Ev) (k : Nat) (tm tm' : Tm), tm.get t = tm'.get t → (∀ i e, tr[i]? = some e → e.r.d = some t → d (k + i) = d' (k + i)) → (tmD d k tr tm).get t = (tmD d' k tr tm').get t
  | [], k, tm, tm', h, _ => h
  | e :: r, k, tm, tm', h, hd => by
    simp only [tmD]
    refine tmD_congr d d' t r (k + 1) _ _ ?_ fun i e' he' ht => ?_
    · by_cases ht : e.r.d = some t
      · have := hd 0 e rfl ht
        simp only [Nat.add_zero] at this
        rw [this]
        split
        · rw [tput_get, tput_get, if_pos ht, if_pos ht]
        · exact h
      · have e1 : ∀ (b : Bool) (m : Tm), (if b = true then tput m e.r.d e.lv else m).get t = m.get t := by
          intro b m
          split
          · rw [tput_get, if_neg ht]
          · rfl
        rw [e1, e1]; exact h
    · have := hd (i + 1) e' (by simpa using he') ht
      rw [show k + 1 + i = k + (i + 1) from by omega]; exact this

theorem hpD_congr (d d' : Nat → Bool) : ∀ (tr : List Ev) (k : Nat) (h : Hp), (∀ i e, tr[i]? = some e → e.turns = true → d (k + i) = d' (k + i)) → hpD d k tr h = hpD d' k tr h
  | [], k, h, _ => rfl
  | e :: r, k, h, hd => by
    simp only [hpD]
    have e1 : (d k && e.turns) = (d' k && e.turns) := by
      cases ht : e.turns with
      | false => simp
      | true =>
        have := hd 0 e rfl ht
        simpa using this
    rw [e1]
    refine hpD_congr d d' r (k + 1) _ fun i e' he' ht => ?_
    have := hd (i + 1) e' (by simpa using he') ht
    rw [show k + 1 + i = k + (i + 1) from by omega]; exact this

theorem tmD_take : ∀ (tr : List Ev) (k m : Nat) (tm : Tm), tmD (fun i => decide (i < k + m)) k tr tm = tmOf tm (tr.take m)
  | [], k, m, tm => by simp [tmD, tmOf]
  | e :: r, k, m, tm => by
    rcases m with _ | m
    · simp only [tmD, Nat.add_zero, List.take_zero, tmOf]
      have : ∀ (tr : List Ev) (j : Nat) (tm : Tm), k < j → tmD (fun i => decide (i < k)) j tr tm = tm := by
        intro tr
        induction tr with
        | nil => intro j tm _; rfl
        | cons x r ih =>
          intro j tm hj
          simp only [tmD]
          rw [if_neg (by simp; omega)]
          exact ih (j + 1) tm (by omega)
      rw [if_neg (by simp)]
      exact this r (k + 1) tm (by omega)
    · simp only [tmD, List.take_succ_cons, tmOf]
      rw [if_pos (by simp)]
      have := tmD_take r (k + 1) m (tput tm e.r.d e.lv)
      rw [show k + 1 + m = k + (m + 1) from by omega] at this
      exact this

theorem hpD_take {P : Program} : ∀ (tr : List Ev) (k m : Nat) (tm : Tm) (h : Hp), TraceOK P tm h tr → hpD (fun i => decide (i < k + m)) k tr h = hpOf h (tr.take m)
  | [], k, m, tm, h, _ => by simp [hpD, hpOf]
  | e :: r, k, m, tm, h, hok => by
    rcases m with _ | m
    · simp only [hpD, Nat.add_zero, List.take_zero, hpOf]
      have : ∀ (tr : List Ev) (j : Nat) (h : Hp), k < j → hpD (fun i => decide (i < k)) j tr h = h := by
        intro tr
        induction tr with
        | nil => intro j h _; rfl
        | cons x r ih =>
          intro j h hj
          simp only [hpD]
          rw [if_neg (by simp; omega)]
          exact ih (j + 1) h (by omega)
      rw [if_neg (by simp)]
      exact this r (k + 1) h (by omega)
    · simp only [hpD, List.take_succ_cons, hpOf]
      have e1 : (if (decide (k < k + (m + 1)) && e.turns) = true then e.h1 else h) = e.h1 := by
        split
        · rfl
        · rename_i hne
          have ht : e.turns = false := by simpa using hne
          exact (hok.1.2.2.2 ht).symm
      rw [e1]
      have := hpD_take r (k + 1) m _ e.h1 hok.2
      rw [show k + 1 + m = k + (m + 1) from by omega] at this
      exact this

/-- The last write of a slot. -/
theorem tmD_last (done : Nat → Bool) (t : Nat) : ∀ (tr : List Ev) (k : Nat) (tm : Tm) (i : Nat) (e : Ev), tr[i]? = some e → e.r.d = some t → done (k + i) = true → (∀ j e', i < j → tr[j]? = some e' → e'.r.d = some t → done (k + j) = false) →
    (tmD done k tr tm).get t = some e.lv
  | [], k, tm, i, e, he, _, _, _ => by simp at he
  | x :: r, k, tm, i, e, he, ht, hd, hno => by
    rcases i with _ | i
    · simp at he
      subst he
      simp only [tmD]
      simp only [Nat.add_zero] at hd
      rw [if_pos hd]
      have key : ∀ (tr : List Ev) (k' : Nat) (tm : Tm), (∀ i e', tr[i]? = some e' → e'.r.d = some t → done (k' + i) = false) → (tmD done k' tr tm).get t = tm.get t := by
        intro tr
        induction tr with
        | nil => intro k' tm _; rfl
        | cons y r ih =>
          intro k' tm h
          simp only [tmD]
          rw [ih (k' + 1) _ (fun i e' he' ht' => by
            have := h (i + 1) e' (by simpa using he') ht'
            rw [show k' + 1 + i = k' + (i + 1) from by omega]; exact this)]
          split
          · rename_i hdk
            rw [tput_get, if_neg]
            intro hyt
            have := h 0 y rfl hyt
            simp only [Nat.add_zero] at this
            rw [this] at hdk; cases hdk
          · rfl
      rw [key r (k + 1) _ (fun i e' he' ht' => by
        have := hno (i + 1) e' (by omega) (by simpa using he') ht'
        rw [show k + 1 + i = k + (i + 1) from by omega]; exact this), tput_get, if_pos ht]
    · simp only [tmD]
      refine tmD_last done t r (k + 1) _ i e (by simpa using he) ht (by rw [show k + 1 + i = k + (i + 1) from by omega]; exact hd) fun j e' hj he' ht' => ?_
      have := hno (j + 1) e' (by omega) (by simpa using he') ht'
      rw [show k + 1 + j = k + (j + 1) from by omega]; exact this

theorem hpD_last (done : Nat → Bool) : ∀ (tr : List Ev) (k : Nat) (h : Hp) (i : Nat) (e : Ev), tr[i]? = some e → e.turns = true → done (k + i) = true → (∀ j e', i < j → tr[j]? = some e' → e'.turns = true → done (k + j) = false) →
    hpD done k tr h = e.h1
  | [], k, h, i, e, he, _, _, _ => by simp at he
  | x :: r, k, h, i, e, he, ht, hd, hno => by
    rcases i with _ | i
    · simp at he
      subst he
      simp only [hpD]
      simp only [Nat.add_zero] at hd
      rw [if_pos (by simp [hd, ht])]
      have key : ∀ (tr : List Ev) (k' : Nat) (h : Hp), (∀ i e', tr[i]? = some e' → e'.turns = true → done (k' + i) = false) → hpD done k' tr h = h := by
        intro tr
        induction tr with
        | nil => intro k' h _; rfl
        | cons y r ih =>
          intro k' h hh
          simp only [hpD]
          rw [ih (k' + 1) _ (fun i e' he' ht' => by
            have := hh (i + 1) e' (by simpa using he') ht'
            rw [show k' + 1 + i = k' + (i + 1) from by omega]; exact this)]
          rw [if_neg]
          intro hyt
          simp only [Bool.and_eq_true] at hyt
          have := hh 0 y rfl hyt.2
          simp only [Nat.add_zero] at this
          rw [this] at hyt; cases hyt.1
      exact key r (k + 1) _ (fun i e' he' ht' => by
        have := hno (i + 1) e' (by omega) (by simpa using he') ht'
        rw [show k + 1 + i = k + (i + 1) from by omega]; exact this)
    · simp only [hpD]
      refine hpD_last done r (k + 1) _ i e (by simpa using he) ht (by rw [show k + 1 + i = k + (i + 1) from by omega]; exact hd) fun j e' hj he' ht' => ?_
      have := hno (j + 1) e' (by omega) (by simpa using he') ht'
      rw [show k + 1 + j = k + (j + 1) from by omega]; exact this
end Go.Av

namespace Go.Av
open Go.RowKit

theorem yielded_eq {ops : Array Oper} {a : Act} {j t : Nat} {oj : Oper} (ho : ops[j]? = some oj) (hd : oj.dst = some t) {b : Bool} (hb : a.tmps.getD t undef = .bool b) : yielded ops a.tmps j = some b := by
  simp only [yielded, ho, Option.bind_some, hd]
  rw [Array.getD_eq_getD_getElem?] at hb
  cases hq : a.tmps[t]? with
  | none => simp [hq, undef] at hb
  | some v =>
    simp only [hq, Option.getD_some] at hb
    subst hb
    rfl

theorem yielded_undef {ops : Array Oper} {a : Act} {j t : Nat} {oj : Oper} (ho : ops[j]? = some oj) (hd : oj.dst = some t) {H : Hp} {ρ : Rho} {w : World} (hb : LRep H ρ w (.tup []) (a.tmps.getD t undef)) : yielded ops a.tmps j = none := by
  simp only [yielded, ho, Option.bind_some, hd]
  rw [Array.getD_eq_getD_getElem?] at hb
  cases hq : a.tmps[t]? with
  | none => rfl
  | some v =>
    simp only [hq, Option.getD_some] at hb
    cases hb with
    | tup => rfl

theorem lrep_undef (H : Hp) (ρ : Rho) (w : World) : LRep H ρ w (.tup []) undef := .tup _ _ (fun _ => undef) rfl (by simp) (by simp)


/-! ### a region whose order is drawn -/
def odSlots : List Od → List Nat
  | [] => []
  | .t n :: r => n :: odSlots r
  | .c _ :: r => odSlots r

theorem odSlots_mem {l : List Od} {n : Nat} (h : Od.t n ∈ l) : n ∈ odSlots l := by
  induction l with
  | nil => cases h
  | cons x r ih =>
    cases x with
    | t m =>
      simp only [odSlots, List.mem_cons] at h ⊢
      rcases h with h | h
      · simp only [Od.t.injEq] at h; exact .inl h
      · exact .inr (ih h)
    | c v =>
      simp only [odSlots]
      rcases List.mem_cons.1 h with h | h
      · cases h
      · exact ih h

def ROp.reads (r : ROp) : List Nat := (match r.g with
  | some (j, _) => [j]
  | none => []) ++ odSlots r.k.ods

def inL (d : Option Nat) (l : List Nat) : Bool := match d with
  | some t => l.contains t
  | none => false

/-- Two operations that may not change places. -/
def clash (x y : ROp × Bool) : Bool :=
  inL x.1.d y.1.reads || inL y.1.d x.1.reads || (x.1.d.isSome && x.1.d == y.1.d) || (x.1.k.turns x.2 && y.1.k.looks y.2) || (y.1.k.turns y.2 && x.1.k.looks x.2)

def Indep (ops : Array Oper) (rl : List (ROp × Bool)) : Prop :=
  ∀ j i x y, j < i → rl[j]? = some x → rl[i]? = some y → clash x y = true → Anc ops j i

/-- No mode's edges go round. -/
def LowE (ops : Array Oper) : Prop := ∀ m : Region.Mode, ∃ r, RankE m ops r

theorem turns_looks {k : RK} {w : Bool} (h : k.turns w = true) : k.looks w = true := by
  cases k <;> simp_all [RK.turns, RK.looks]

theorem dop1_out {P : Program} {tm : Tm} {hp : Hp} {w : Bool} {k : RK} {K : LV → Hp → Prop} (h : dop1 P tm hp w k K) :
    ∃ lv h1, aop1 P tm hp k (fun lv' hp' => lv' = lv ∧ hp' = h1) (fun _ _ => False) ∧ (k.turns w = false → h1 = hp) ∧ K lv h1 := by
  cases k <;> try exact h
  rename_i x
  simp only [dop1] at h
  split at h
  · rename_i r hr
    have e : r.hp = hp := aop_reads (k := .len x) rfl hr
    refine ⟨r.lv, hp, ?_, fun _ => rfl, h.2⟩
    simp only [aop1, hr]
    exact ⟨h.1, fun _ => by simp [e]⟩
  · exact h.elim

theorem adraw_trace {P : Program} : ∀ {ops : List (ROp × Bool)} {K : Tm → Hp → Prop} {tm : Tm} {hp : Hp}, adraw P ops K tm hp →
    ∃ tr : List Ev, TraceOK P tm hp tr ∧ tr.map (fun e => (e.r, e.w)) = ops ∧ K (tmOf tm tr) (hpOf hp tr)
  | [], K, tm, hp, h => ⟨[], trivial, rfl, h⟩
  | (o, w) :: r, K, tm, hp, h => by
    have step : ∀ (hg : GuardOK tm ⟨o, w, true, .tup [], hp⟩), dop1 P tm hp w o.k (fun lv hp' => adraw P r K (tput tm o.d lv) hp') → ∃ tr : List Ev, TraceOK P tm hp tr ∧ tr.map (fun e => (e.r, e.w)) = (o, w) :: r ∧ K (tmOf tm tr) (hpOf hp tr) := by
      intro hg hd
      obtain ⟨lv, h1, k1, k2, k3⟩ := dop1_out hd
      obtain ⟨tr, t1, t2, t3⟩ := adraw_trace k3
      exact ⟨⟨o, w, true, lv, h1⟩ :: tr, ⟨⟨hg, fun _ => k1, (fun e => by cases e), k2⟩, t1⟩, by simp [t2], t3⟩
    have skip : ∀ (hg : GuardOK tm ⟨o, w, false, .tup [], hp⟩), adraw P r K (tput tm o.d (.tup [])) hp → ∃ tr : List Ev, TraceOK P tm hp tr ∧ tr.map (fun e => (e.r, e.w)) = (o, w) :: r ∧ K (tmOf tm tr) (hpOf hp tr) := by
      rintro hg k3
      obtain ⟨tr, t1, t2, t3⟩ := adraw_trace k3
      exact ⟨⟨o, w, false, .tup [], hp⟩ :: tr, ⟨⟨hg, (fun e => by cases e), fun _ => ⟨rfl, rfl⟩, fun _ => rfl⟩, t1⟩, by simp [t2], t3⟩
    simp only [adraw] at h
    cases hg : o.g with
    | none =>
      rw [hg] at h
      exact step (.inl ⟨hg, rfl⟩) h
    | some p =>
      obtain ⟨j, want⟩ := p
      rw [hg] at h
      simp only at h
      split at h
      · rename_i b hb
        obtain ⟨h1, h2⟩ := h
        cases hq : b == want with
        | true => exact step (.inr (.inl ⟨j, want, b, hg, hb, hq.symm⟩)) (h1 hq)
        | false => exact skip (.inr (.inl ⟨j, want, b, hg, hb, hq.symm⟩)) (h2 hq)
      · rename_i hb
        exact skip (.inr (.inr ⟨j, want, hg, hb, rfl⟩)) h
      · exact h.elim

theorem aop1_pure {P : Program} {tm : Tm} {hp hp2 h1 : Hp} {k : RK} {w : Bool} {lv : LV} {Kp Kp' : Value → Hp → Prop} (hl : k.looks w = false) (h : aop1 P tm hp k (fun lv' hp' => lv' = lv ∧ hp' = h1) Kp) :
    aop1 P tm hp2 k (fun lv' hp' => lv' = lv ∧ hp' = hp2) Kp' := by
  have hc : k.plain = true ∧ k.cls = 0 := by cases k <;> simp_all [RK.looks, RK.plain]
  have hg : ∀ hp, grant tm hp k = True := by
    intro hp
    cases k <;> first | rfl | (simp [RK.looks, RK.cls] at hl)
  have key : ∀ (hp : Hp) (K : LV → Hp → Prop) (Kp : Value → Hp → Prop), aop1 P tm hp k K Kp ↔ ∃ r, aop tm hp k = some r ∧ r.pre ∧ K r.lv r.hp := by
    intro hp K Kp
    have hg := hg hp
    have : aop1 P tm hp k K Kp = match aop tm hp k with
      | some r => r.pre ∧ (grant tm hp k → K r.lv r.hp)
      | none => False := by cases k <;> first | rfl | (simp [RK.plain] at hc)
    rw [this]
    cases aop tm hp k with
    | none => simp
    | some r => simp [hg]
  obtain ⟨r, k1, k2, k3, k4⟩ := (key _ _ _).1 h
  obtain ⟨k5, _⟩ := aop_pure (hp2 := hp2) hc.2 k1
  exact (key _ _ _).2 ⟨_, k5, k2, k3, rfl⟩

theorem olist_get {P : Program} {n lo : Nat} {ops : Array Oper} {l : List Nat} {rl : List ROp} (h : OList P n lo ops l rl) : l.length = rl.length ∧ ∀ (i x : Nat), l[i]? = some x → ∃ o r, ops[x]? = some o ∧ rl[i]? = some r ∧ ORel P n lo ops o r := by
  induction h with
  | nil => simp
  | cons i o r l rl ho hor hr ih =>
    refine ⟨by simp [ih.1], fun j x hx => ?_⟩
    rcases j with _ | j
    · simp at hx; subst hx; exact ⟨o, r, ho, rfl, hor⟩
    · exact ih.2 j x (by simpa using hx)

theorem SInv.get_eq {P : Program} {E : Ent P} {n : Nat} {tm tm' : Tm} {hp : Hp} {a : Act} {w : World} {ρ : Rho} (h : SInv E n tm hp a w ρ) (he : ∀ t, tm'.get t = tm.get t) : SInv E n tm' hp a w ρ :=
  ⟨fun t lv ht => h.tr t lv (by rw [← he t]; exact ht), h.h, h.size, h.defers, h.pin⟩

theorem SInv.drew {P : Program} {E : Ent P} {n : Nat} {tm : Tm} {hp : Hp} {a : Act} {w : World} {ρ : Rho} (h : SInv E n tm hp a w ρ) : SInv E n tm hp a { w with drawn := w.drawn + 1 } ρ :=
  ⟨h.tr.keep ext_drew, ⟨h.h.rep.drew, h.h.ext.trans ext_drew⟩, h.size, h.defers, h.pin⟩

theorem draw_sound {P : Program} {E : Ent P} {n : Nat} {ops : Array Oper} {rl : List (ROp × Bool)} (hol : OList P n E.lo ops (List.range ops.size) (rl.map (·.1))) (hind : Indep ops rl)
    {tm0 : Tm} {hp0 : Hp} {tr : List Ev} (htr : TraceOK P tm0 hp0 tr) (hmap : tr.map (fun e => (e.r, e.w)) = rl) {Q : Exit → Act → World → Prop}
    (hQ : ∀ ρ a w, SInv E n (tmOf tm0 tr) (hpOf hp0 tr) a w ρ → Q .normal a w) {l : List Nat} {done : Nat → Bool} (hv : Valid ops done l) :
    ClosedD ops done → ∀ (ρ : Rho) (a : Act) (w : World), SInv E n (tmD done 0 tr tm0) (hpD done 0 tr hp0) a w ρ → wpOps P ops Q l a w := by
  have hlen : tr.length = ops.size := by
    have := (olist_get hol).1
    rw [← hmap] at this
    simpa using this.symm
  induction hv with
  | nil done hd =>
    intro hc ρ a w hI
    have e1 : ∀ i e, tr[i]? = some e → done (0 + i) = decide (0 + i < 0 + tr.length) := by
      intro i e he
      have hi := (List.getElem?_eq_some_iff.1 he).1
      rw [hd (0 + i) (by omega)]
      simp; omega
    refine hQ ρ a w ?_
    have e2 : hpD done 0 tr hp0 = hpOf hp0 tr := by
      rw [hpD_congr done (fun i => decide (i < 0 + tr.length)) tr 0 hp0 (fun i e he _ => e1 i e he), hpD_take tr 0 tr.length tm0 hp0 htr, List.take_length]
    rw [← e2]
    refine hI.get_eq fun t => ?_
    rw [tmD_congr done (fun i => decide (i < 0 + tr.length)) t tr 0 tm0 tm0 rfl (fun i e he _ => e1 i e he), tmD_take, List.take_length]
  | cons done i l hdi hrd hvr ih =>
    intro hc ρ a w hI
    obtain ⟨o, ho, hbef⟩ := hrd
    have hi := (Array.getElem?_eq_some_iff.1 ho).1
    obtain ⟨o', r, ho', hr', hor⟩ := (olist_get hol).2 i i (by simp [hi])
    rw [ho] at ho'
    simp only [Option.some.injEq] at ho'
    subst ho'
    have he0 : ∃ e, tr[i]? = some e := ⟨tr[i], List.getElem?_eq_getElem (by omega)⟩
    obtain ⟨e, he⟩ := he0
    have hrl : ∀ (j : Nat) (x : Ev), tr[j]? = some x → rl[j]? = some (x.r, x.w) := by
      intro j x hx
      rw [← hmap]; simp [hx]
    have her : e.r = r := by
      have := hrl i e he
      simp only [List.getElem?_map, this, Option.map_some, Option.some.injEq] at hr'
      exact hr'
    have hev := trace_at htr i e he
    -- what clashes is in order
    have before : ∀ j x, tr[j]? = some x → j < i → clash (x.r, x.w) (e.r, e.w) = true → done j = true := fun j x hx hji hcl =>
      anc_done hc (hind j i _ _ hji (hrl j x hx) (hrl i e he) hcl) ⟨o, ho, hbef⟩
    have after : ∀ j x, tr[j]? = some x → i < j → clash (e.r, e.w) (x.r, x.w) = true → done j = false := by
      intro j x hx hij hcl
      cases hq : done j with
      | false => rfl
      | true =>
        have := hc i j (hind i j _ _ hij (hrl i e he) (hrl j x hx) hcl) hq
        rw [hdi] at this; cases this
    have slots : ∀ t, t ∈ e.r.reads → (tmD done 0 tr tm0).get t = (tmOf tm0 (tr.take i)).get t := by
      intro t ht
      rw [← tmD_take tr 0 i tm0]
      refine tmD_congr _ _ t tr 0 tm0 tm0 rfl fun j x hx hd => ?_
      simp only [Nat.zero_add]
      rcases Nat.lt_trichotomy j i with h | h | h
      · rw [before j x hx h (by simp [clash, hd, inL, ht])]; simp [h]
      · subst h; rw [hdi]; simp
      · rw [after j x hx h (by simp [clash, hd, inL, ht])]; simp; omega
    have heap : e.r.k.looks e.w = true → hpD done 0 tr hp0 = hpOf hp0 (tr.take i) := by
      intro hl
      rw [← hpD_take tr 0 i tm0 hp0 htr]
      refine hpD_congr _ _ tr 0 hp0 fun j x hx hd => ?_
      simp only [Nat.zero_add]
      simp only [Ev.turns] at hd
      rcases Nat.lt_trichotomy j i with h | h | h
      · rw [before j x hx h (by simp [clash, hd, hl])]; simp [h]
      · subst h; rw [hdi]; simp
      · rw [after j x hx h (by simp [clash, hd, hl])]; simp; omega
    have agree : Agree (tmOf tm0 (tr.take i)) (tmD done 0 tr tm0) e.r.k.ods := by
      intro x hx
      cases x with
      | c v => rfl
      | t m => simp only [odv]; rw [slots m (by simp only [ROp.reads, List.mem_append]; exact .inr (odSlots_mem hx))]
    -- the state behind it
    let done' : Nat → Bool := fun j => done j || j == i
    have hc' : ClosedD ops done' := closed_step hc ⟨o, ho, hbef⟩
    have get' : ∀ t, (tmD done' 0 tr tm0).get t = (tput (tmD done 0 tr tm0) e.r.d e.lv).get t := by
      intro t
      rw [tput_get]
      split
      · rename_i hd
        refine tmD_last done' t tr 0 tm0 i e he hd (by simp [done']) fun j x hij hx hdx => ?_
        simp only [Nat.zero_add, done']
        have := after j x hx hij (by simp [clash, hd, hdx])
        simp [this]; omega
      · rename_i hd
        refine tmD_congr _ _ t tr 0 tm0 tm0 rfl fun j x hx hdx => ?_
        simp only [Nat.zero_add, done']
        have : ¬ j = i := by
          intro h; subst h
          rw [he] at hx
          simp only [Option.some.injEq] at hx
          subst hx
          exact hd hdx
        simp [this]
    have heap' : hpD done' 0 tr hp0 = if e.turns then e.h1 else hpD done 0 tr hp0 := by
      split
      · rename_i ht
        refine hpD_last done' tr 0 hp0 i e he ht (by simp [done']) fun j x hij hx htx => ?_
        simp only [Nat.zero_add, done']
        simp only [Ev.turns] at ht htx
        have := after j x hx hij (by simp [clash, ht, turns_looks htx])
        simp [this]; omega
      · rename_i ht
        refine hpD_congr _ _ tr 0 hp0 fun j x hx htx => ?_
        simp only [Nat.zero_add, done']
        have : ¬ j = i := by
          intro h; subst h
          rw [he] at hx
          simp only [Option.some.injEq] at hx
          subst hx
          exact ht htx
        simp [this]
    have run : e.act = true → o.wp P a w (wpOps P ops Q l) Q := by
      intro hact
      have h1 := hev.2.1 hact
      have h2 : aop1 P (tmD done 0 tr tm0) (hpD done 0 tr hp0) e.r.k (fun lv' hp' => lv' = e.lv ∧ hp' = hpD done' 0 tr hp0) (fun _ _ => False) := by
        have h3 := aop1_congr agree h1
        cases hl : e.r.k.looks e.w with
        | true =>
          rw [heap hl, heap']
          cases ht : e.turns with
          | true => simpa [ht] using h3
          | false =>
            have := hev.2.2.2 ht
            rw [heap hl]
            simpa [← this] using h3
        | false =>
          have ht : e.turns = false := by
            cases hq : e.turns with
            | false => rfl
            | true => rw [Ev.turns] at hq; have := turns_looks hq; rw [hl] at this; cases this
          have := aop1_pure (hp2 := hpD done 0 tr hp0) (Kp' := fun _ _ => False) hl h3
          rw [heap', ht]
          exact this
      rw [her] at h2
      refine aop1_sound hI hor.k h2 (fun lv hp' ρ' v w' hK hv hH' hx => ?_) (fun v hp' ρ' w' hk hi => hk.elim)
      obtain ⟨rfl, rfl⟩ := hK
      refine ih hc' ρ' _ _ ?_
      refine SInv.get_eq (tm := tput (tmD done 0 tr tm0) e.r.d e.lv) ⟨?_, ⟨hH', hI.h.ext.trans hx⟩, by rw [put_size]; exact hI.size, by rw [put_defers]; exact hI.defers, pin_put hI.pin hor.ge⟩ get'
      rw [her, hor.d]
      exact (hI.tr.keep hx).put hI.size o.dst hor.lt hv
    have skip : e.act = false → wpOps P ops Q l (a.put o.dst undef) w := by
      intro hact
      obtain ⟨h1, h2⟩ := hev.2.2.1 hact
      have h3 : hpD done' 0 tr hp0 = hpD done 0 tr hp0 := by
        rw [heap']
        split
        · rename_i ht
          rw [h2, heap (turns_looks ht)]
        · rfl
      refine ih hc' ρ _ _ ?_
      rw [h3]
      refine SInv.get_eq (tm := tput (tmD done 0 tr tm0) e.r.d e.lv) ⟨?_, hI.h, by rw [put_size]; exact hI.size, by rw [put_defers]; exact hI.defers, pin_put hI.pin hor.ge⟩ get'
      rw [her, hor.d, h1]
      exact hI.tr.put hI.size o.dst hor.lt (lrep_undef _ _ _)
    simp only [wpOps, ho]
    rcases hev.1 with ⟨hg, hact⟩ | ⟨j, want, b, hg, hb, hact⟩ | ⟨j, want, hg, hb, hact⟩
    · have hog : o.guard = none := by
        have hgg := hor.g
        cases hq : o.guard with
        | none => rfl
        | some p =>
          obtain ⟨j, want⟩ := p
          simp only [hq] at hgg
          obtain ⟨_, t, _, _, h3⟩ := hgg
          rw [her] at hg; rw [hg] at h3; cases h3
      have hw : Region.wanted o (yielded ops a.tmps) = true := by simp [Region.wanted, hog]
      simp only [hw, if_true]
      exact .inl (run hact)
    · have hb' := hb
      rw [← slots j (by simp [ROp.reads, hg])] at hb'
      have hgg := hor.g
      cases hog : o.guard with
      | none =>
        simp only [hog] at hgg
        rw [her] at hg; rw [hg] at hgg; cases hgg
      | some p =>
        obtain ⟨jj, want'⟩ := p
        simp only [hog] at hgg
        obtain ⟨oj, t, h1, h2, h3⟩ := hgg
        rw [her] at hg
        rw [hg] at h3
        simp only [Option.some.injEq, Prod.mk.injEq] at h3
        obtain ⟨rfl, rfl⟩ := h3
        have hvv := (hI.tr j _ hb').scI
        have hy := yielded_eq h1 h2 hvv
        have hw : Region.wanted o (yielded ops a.tmps) = (b == want) := by
          simp only [Region.wanted, hog, hy]
          cases b <;> cases want <;> rfl
        rw [hw]
        cases hq : b == want with
        | true => simp only [if_true]; exact .inl (run (by rw [hact, hq]))
        | false => simp only [Bool.false_eq_true, if_false]; exact skip (by rw [hact, hq])
    · have hb' := hb
      rw [← slots j (by simp [ROp.reads, hg])] at hb'
      have hgg := hor.g
      cases hog : o.guard with
      | none =>
        simp only [hog] at hgg
        rw [her] at hg; rw [hg] at hgg; cases hgg
      | some p =>
        obtain ⟨jj, want'⟩ := p
        simp only [hog] at hgg
        obtain ⟨oj, t, h1, h2, h3⟩ := hgg
        rw [her] at hg
        rw [hg] at h3
        simp only [Option.some.injEq, Prod.mk.injEq] at h3
        obtain ⟨rfl, rfl⟩ := h3
        have hy := yielded_undef h1 h2 (hI.tr j _ hb')
        have hw : Region.wanted o (yielded ops a.tmps) = false := by simp [Region.wanted, hog, hy]
        rw [hw]
        simp only [Bool.false_eq_true, if_false]
        exact skip hact

theorem adraw_sound {P : Program} {E : Ent P} {n : Nat} {ops : Array Oper} {rl : List (ROp × Bool)} (hol : OList P n E.lo ops (List.range ops.size) (rl.map (·.1))) (hlow : LowE ops) (hind : Indep ops rl)
    {K : Tm → Hp → Prop} {tm : Tm} {hp : Hp} {Q : Exit → Act → World → Prop} (hQ : ∀ tm hp ρ a w, K tm hp → SInv E n tm hp a w ρ → Q .normal a w)
    (h : adraw P rl K tm hp) {ρ : Rho} {a : Act} {w : World} (hI : SInv E n tm hp a w ρ) (t : Nat) : wpOps P ops Q (Region.schedule (P.follows .mixedOrders) ops t) a w := by
  obtain ⟨tr, h1, h2, h3⟩ := adraw_trace h
  have hs : ∃ m t', Region.schedule (P.follows .mixedOrders) ops t = Region.linearise m ops t' := by
    unfold Region.schedule
    split
    · exact ⟨_, _, rfl⟩
    · exact ⟨_, _, rfl⟩
  obtain ⟨m, t', hs⟩ := hs
  obtain ⟨r, hr⟩ := hlow m
  rw [hs]
  refine draw_sound hol hind h1 h2 (fun ρ a w hI => hQ _ _ ρ a w h3 hI) (linearise_valid m ops r hr t') (fun i j _ hj => by cases hj) ρ a w ?_
  have e1 : ∀ (tr : List Ev) (k : Nat) (tm : Tm), tmD (fun _ => false) k tr tm = tm := by
    intro tr
    induction tr with
    | nil => intro k tm; rfl
    | cons x r ih => intro k tm; simp only [tmD]; exact ih _ _
  have e2 : ∀ (tr : List Ev) (k : Nat) (h : Hp), hpD (fun _ => false) k tr h = h := by
    intro tr
    induction tr with
    | nil => intro k h; rfl
    | cons x r ih => intro k h; simp only [hpD]; exact ih _ _
  rw [e1, e2]
  exact hI

/-! ### is it so? -/
/-- Ranks: one round more. -/
def rankStep (m : Region.Mode) (r : List Nat) : List Oper → List Nat
  | [] => []
  | o :: l => o.after.toList.foldl (fun n e => if Region.binds m e then Nat.max n (r.getD e.on 0 + 1) else n) 0 :: rankStep m r l
def ranks (m : Region.Mode) (ops : List Oper) : Nat → List Nat → List Nat
  | 0, r => r
  | n + 1, r =>
    let r' := rankStep m r ops
    if r' == r then r else ranks m ops n r'

def rankB (m : Region.Mode) (ops : Array Oper) : Bool :=
  let r := ranks m ops.toList (ops.size + 1) (ops.toList.map fun _ => 0)
  (List.range ops.size).all fun i => match ops[i]? with
    | some o => o.after.toList.all fun e => !(Region.binds m e) || (Nat.blt e.on ops.size && Nat.blt (r.getD e.on 0) (r.getD i 0))
    | none => true

theorem rankB_ok {m : Region.Mode} {ops : Array Oper} (h : rankB m ops = true) : ∃ r, RankE m ops r := by
  refine ⟨fun i => (ranks m ops.toList (ops.size + 1) (ops.toList.map fun _ => 0)).getD i 0, fun i o ho e he hb => ?_⟩
  have hi := (Array.getElem?_eq_some_iff.1 ho).1
  have := (List.all_eq_true.1 h) i (by simpa using hi)
  simp only [ho] at this
  have := (List.all_eq_true.1 this) e he
  simp only [hb, Bool.not_true, Bool.false_or, Bool.and_eq_true, Nat.blt_eq] at this
  exact this

def lowB (ops : Array Oper) : Bool := rankB .any ops && rankB .text ops && rankB .gc ops

theorem lowB_ok {ops : Array Oper} (h : lowB ops = true) : LowE ops := by
  simp only [lowB, Bool.and_eq_true] at h
  intro m
  cases m
  · exact rankB_ok h.1.2
  · exact rankB_ok h.2
  · exact rankB_ok h.1.1

def maskOf (acc : List Nat) : List Edge → Nat
  | [] => 0
  | e :: r => if Region.binds .any e then (acc.getD e.on 0 ||| (1 <<< e.on)) ||| maskOf acc r else maskOf acc r

def ancs : List Oper → List Nat → List Nat
  | [], acc => acc
  | o :: r, acc => ancs r (acc ++ [maskOf acc o.after.toList])

theorem maskOf_ok {acc : List Nat} {j : Nat} : ∀ {l : List Edge}, (maskOf acc l).testBit j = true → ∃ e ∈ l, Region.binds .any e = true ∧ (e.on = j ∨ (acc.getD e.on 0).testBit j = true)
  | [], h => by simp [maskOf] at h
  | e :: r, h => by
    simp only [maskOf] at h
    split at h
    · rename_i hb
      simp only [Nat.testBit_or, Bool.or_eq_true] at h
      rcases h with (h | h) | h
      · exact ⟨e, by simp, hb, .inr h⟩
      · refine ⟨e, by simp, hb, .inl ?_⟩
        rw [Nat.one_shiftLeft, Nat.testBit_two_pow] at h
        simpa using h
      · obtain ⟨x, h1, h2⟩ := maskOf_ok h
        exact ⟨x, by simp [h1], h2⟩
    · obtain ⟨x, h1, h2⟩ := maskOf_ok h
      exact ⟨x, by simp [h1], h2⟩

theorem ancs_ok {ops : Array Oper} : ∀ (l : List Oper) (acc : List Nat), (∀ i o, l[i]? = some o → ops[acc.length + i]? = some o) → (∀ i m j, acc[i]? = some m → m.testBit j = true → Anc ops j i) →
    ∀ i m j, (ancs l acc)[i]? = some m → m.testBit j = true → Anc ops j i
  | [], acc, _, h => h
  | o :: r, acc, hl, h => by
    refine ancs_ok r _ (fun i x hx => ?_) fun i m j hm hb => ?_
    · have := hl (i + 1) x (by simpa using hx)
      rw [show (acc ++ [maskOf acc o.after.toList]).length + i = acc.length + (i + 1) from by simp; omega]
      exact this
    · rw [List.getElem?_append] at hm
      split at hm
      · exact h i m j hm hb
      · rename_i hge
        have hi : i = acc.length := by
          have := (List.getElem?_eq_some_iff.1 hm).1
          simp at this; omega
        subst hi
        simp only [Nat.sub_self, List.getElem?_cons_zero, Option.some.injEq] at hm
        subst hm
        obtain ⟨e, he, hb1, hb2⟩ := maskOf_ok hb
        have ho := hl 0 o rfl
        simp only [Nat.add_zero] at ho
        have hedge : Anc ops e.on acc.length := .edge _ _ o e ho he hb1 rfl
        rcases hb2 with rfl | hb2
        · exact hedge
        · refine .trans _ _ _ ?_ hedge
          cases hq : acc[e.on]? with
          | none => simp [List.getD, hq] at hb2
          | some m' =>
            simp only [List.getD, hq, Option.getD_some] at hb2
            exact h e.on m' j hq hb2

def indepB (ops : Array Oper) (rl : List (ROp × Bool)) : Bool :=
  let A := ancs ops.toList []
  (List.range rl.length).all fun i => match rl[i]? with
    | some y => (List.range i).all fun j => match rl[j]? with
      | some x => !(clash x y) || (A.getD i 0).testBit j
      | none => true
    | none => true

theorem indepB_ok {ops : Array Oper} {rl : List (ROp × Bool)} (h : indepB ops rl = true) : Indep ops rl := by
  intro j i x y hji hx hy hc
  have hi := (List.getElem?_eq_some_iff.1 hy).1
  have h1 := (List.all_eq_true.1 h) i (by simpa using hi)
  simp only [hy] at h1
  have h2 := (List.all_eq_true.1 h1) j (by simpa using hji)
  simp only [hx, hc, Bool.not_true, Bool.false_or] at h2
  cases hq : (ancs ops.toList [])[i]? with
  | none => simp [List.getD, hq] at h2
  | some m =>
    simp only [List.getD, hq, Option.getD_some] at h2
    exact ancs_ok ops.toList [] (fun i o h => by simpa using h) (fun i m j h => by simp at h) i m j hq h2
end Go.Av

namespace Go.Av
open Go.RowKit

/-! ### regions whose order is drawn, in which some operations look at a heap that others turn, and one may panic -/
theorem same_of_ok {P : Program} {tm : Tm} {hp : Hp} {e : Ev} (h : EvOK P tm hp e) (ha : e.act = true) (ht : e.turns = false) : Same P tm hp e.r.k e.lv := by
  have h1 := h.2.1 ha
  have h2 := h.2.2.2 ht
  rw [h2] at h1
  exact h1

structure GConds (P : Program) (ops : List DOp) (hs : List (Nat × Hp)) (ps : List Pd) (i0 : Nat) (tm : Tm) (hp : Hp) (tr : List Ev) : Prop where
  c1a : ∀ (m : Nat) (e : Ev) (o : DOp), tr[m]? = some e → ops[m]? = some o → e.act = true → ∀ x ∈ hs, o.ub.contains x.1 = true → Same P (tmOf tm (tr.take m)) x.2 e.r.k e.lv
  c1b : ∀ (m : Nat) (e : Ev) (o : DOp), tr[m]? = some e → ops[m]? = some o → e.act = true → ∀ (j : Nat) (o' : DOp), j < m → ops[j]? = some o' → o'.sv = true → o.ub.contains (i0 + j) = true → Same P (tmOf tm (tr.take m)) (hpOf hp (tr.take j)) e.r.k e.lv
  c2a : ∀ (m : Nat) (e : Ev) (o : DOp), tr[m]? = some e → ops[m]? = some o → ∀ y ∈ ps, o.ua.contains y.i = true → Same P y.tm e.h1 y.k y.lv
  c2b : ∀ (m : Nat) (e : Ev) (o : DOp), tr[m]? = some e → ops[m]? = some o → ∀ (j : Nat) (e' : Ev) (o' : DOp), j < m → tr[j]? = some e' → ops[j]? = some o' → o'.sp = true → e'.act = true → o.ua.contains (i0 + j) = true → Same P (tmOf tm (tr.take j)) e.h1 e'.r.k e'.lv

theorem gchk1_mem {P : Program} {tm : Tm} {k : RK} {lv : LV} {ub : List Nat} : ∀ {hs : List (Nat × Hp)}, gchk1 P tm k lv ub hs → ∀ x ∈ hs, ub.contains x.1 = true → Same P tm x.2 k lv
  | [], _, x, hx, _ => by cases hx
  | (j, h) :: r, hc, x, hx, hu => by
    rcases List.mem_cons.1 hx with rfl | hx
    · have := hc.1
      rw [if_pos hu] at this
      exact this
    · exact gchk1_mem hc.2 x hx hu

theorem gchk2_mem {P : Program} {h : Hp} {ua : List Nat} : ∀ {ps : List Pd}, gchk2 P h ua ps → ∀ y ∈ ps, ua.contains y.i = true → Same P y.tm h y.k y.lv
  | [], _, x, hx, _ => by cases hx
  | y :: r, hc, x, hx, hu => by
    rcases List.mem_cons.1 hx with rfl | hx
    · have := hc.1
      rw [if_pos hu] at this
      exact this
    · exact gchk2_mem hc.2 x hx hu

theorem gconds_nil (P : Program) (ops : List DOp) (hs : List (Nat × Hp)) (ps : List Pd) (i0 : Nat) (tm : Tm) (hp : Hp) : GConds P ops hs ps i0 tm hp [] :=
  ⟨fun m e o h => by simp at h, fun m e o h => by simp at h, fun m e o h => by simp at h, fun m e o h => by simp at h⟩

theorem gconds_cons {P : Program} {o : DOp} {ops : List DOp} {hs : List (Nat × Hp)} {ps : List Pd} {i0 : Nat} {tm : Tm} {hp : Hp} {e : Ev} {tr : List Ev}
    (h1 : e.act = true → gchk1 P tm e.r.k e.lv o.ub hs) (h2 : gchk2 P e.h1 o.ua ps)
    (h : GConds P ops (if o.sv then (i0, hp) :: hs else hs) (if o.sp && e.act then ⟨i0, e.r.k, tm, e.lv⟩ :: ps else ps) (i0 + 1) (tput tm e.r.d e.lv) e.h1 tr) :
    GConds P (o :: ops) hs ps i0 tm hp (e :: tr) := by
  refine ⟨fun m x y hx hy ha z hz hu => ?_, fun m x y hx hy ha j o' hj ho' hsv hu => ?_, fun m x y hx hy z hz hu => ?_, fun m x y hx hy j e' o' hj he' ho' hsp ha' hu => ?_⟩
  · rcases m with _ | m
    · simp at hx hy; subst hx; subst hy
      exact gchk1_mem (h1 ha) z hz hu
    · simp only [List.getElem?_cons_succ] at hx hy
      refine h.c1a m x y hx hy ha z ?_ hu
      split
      · exact List.mem_cons_of_mem _ hz
      · exact hz
  · rcases m with _ | m
    · omega
    · simp only [List.getElem?_cons_succ] at hx hy
      rcases j with _ | j
      · simp at ho'; subst ho'
        refine h.c1a m x y hx hy ha (i0, hp) ?_ (by simpa using hu)
        rw [if_pos hsv]; exact List.mem_cons_self
      · refine h.c1b m x y hx hy ha j o' (by omega) (by simpa using ho') hsv ?_
        rw [show i0 + 1 + j = i0 + (j + 1) from by omega]; exact hu
  · rcases m with _ | m
    · simp at hx hy; subst hx; subst hy
      exact gchk2_mem h2 z hz hu
    · simp only [List.getElem?_cons_succ] at hx hy
      refine h.c2a m x y hx hy z ?_ hu
      split
      · exact List.mem_cons_of_mem _ hz
      · exact hz
  · rcases m with _ | m
    · omega
    · simp only [List.getElem?_cons_succ] at hx hy
      rcases j with _ | j
      · simp at he' ho'; subst he'; subst ho'
        refine h.c2a m x y hx hy ⟨i0, e.r.k, tm, e.lv⟩ ?_ (by simpa using hu)
        rw [if_pos (by simp [hsp, ha'])]; exact List.mem_cons_self
      · refine h.c2b m x y hx hy j e' o' (by omega) (by simpa using he') (by simpa using ho') hsp ha' ?_
        rw [show i0 + 1 + j = i0 + (j + 1) from by omega]; exact hu

theorem gop1_out {P : Program} {tm : Tm} {hp h1 : Hp} {k : RK} {lv : LV} (h : gop1 P tm hp k lv h1) : aop1 P tm hp k (fun lv' hp' => lv' = lv ∧ hp' = h1) (fun _ _ => False) := by
  cases k <;> try exact h
  rename_i x
  obtain ⟨r, hr, h2, rfl, rfl⟩ := h
  have e : r.hp = h1 := aop_reads (k := .len x) rfl hr
  simp only [aop1, hr]
  exact ⟨h2, fun _ => by simp [e]⟩

/-- A guard lets an operation run. -/
def GuardT (tm : Tm) (r : ROp) : Prop := GuardOK tm ⟨r, false, true, .tup [], ⟨[], 0⟩⟩

def GOut (P : Program) (ops : List DOp) (K : Tm → Hp → Prop) (Kp : Value → Hp → Prop) (hs : List (Nat × Hp)) (ps : List Pd) (i0 : Nat) (tm : Tm) (hp : Hp) : Prop :=
    (∃ tr : List Ev, TraceOK P tm hp tr ∧ tr.map (fun e => (e.r, e.w)) = ops.map (fun o => (o.r, o.w)) ∧ GConds P ops hs ps i0 tm hp tr ∧ K (tmOf tm tr) (hpOf hp tr)) ∨
    (∃ (tr : List Ev) (o : DOp), TraceOK P tm hp tr ∧ ops[tr.length]? = some o ∧ tr.map (fun e => (e.r, e.w)) = (ops.take tr.length).map (fun o => (o.r, o.w)) ∧ GConds P ops hs ps i0 tm hp tr ∧ o.p = true ∧
      GuardT (tmOf tm tr) o.r ∧ aop1 P (tmOf tm tr) (hpOf hp tr) o.r.k (fun _ _ => False) Kp)

theorem gd_trace {P : Program} : ∀ {ops : List DOp} {K : Tm → Hp → Prop} {Kp : Value → Hp → Prop} {hs : List (Nat × Hp)} {ps : List Pd} {i0 : Nat} {tm : Tm} {hp : Hp}, gd P ops K Kp hs ps i0 tm hp → GOut P ops K Kp hs ps i0 tm hp
  | [], K, Kp, hs, ps, i0, tm, hp, h => .inl ⟨[], trivial, rfl, gconds_nil _ _ _ _ _ _ _, h⟩
  | o :: r, K, Kp, hs, ps, i0, tm, hp, h => by
    have step : ∀ (hg : GuardT tm o.r), ggo P o hs ps i0 tm hp (fun hs ps i tm hp => gd P r K Kp hs ps i tm hp) Kp → GOut P (o :: r) K Kp hs ps i0 tm hp := by
      intro hg hgo
      have hg' : ∀ lv h1, GuardOK tm ⟨o.r, o.w, true, lv, h1⟩ := fun lv h1 => hg
      rcases hgo with ⟨lv, h1, k0, k2, k3, k4, k5⟩ | ⟨hp', k1⟩
      · have k1 := gop1_out k0
        rcases gd_trace k5 with ⟨tr, t1, t2, t3, t4⟩ | ⟨tr, o', t1, t2, t3, t4, t5, t6, t7⟩
        · exact .inl ⟨⟨o.r, o.w, true, lv, h1⟩ :: tr, ⟨⟨hg' _ _, fun _ => k1, (fun e => by cases e), k2⟩, t1⟩, by simp [t2], gconds_cons (fun _ => k3) k4 (by simpa using t3), t4⟩
        · exact .inr ⟨⟨o.r, o.w, true, lv, h1⟩ :: tr, o', ⟨⟨hg' _ _, fun _ => k1, (fun e => by cases e), k2⟩, t1⟩, by simpa using t2, by simp [t3], gconds_cons (fun _ => k3) k4 (by simpa using t4), t5, t6, t7⟩
      · exact .inr ⟨[], o, trivial, by simp, by simp, gconds_nil _ _ _ _ _ _ _, hp', hg, k1⟩
    have skip : ∀ (hg : GuardOK tm ⟨o.r, o.w, false, .tup [], hp⟩), gchk2 P hp o.ua ps → gd P r K Kp (if o.sv then (i0, hp) :: hs else hs) ps (i0 + 1) (tput tm o.r.d (.tup [])) hp → GOut P (o :: r) K Kp hs ps i0 tm hp := by
      intro hg k4 k5
      rcases gd_trace k5 with ⟨tr, t1, t2, t3, t4⟩ | ⟨tr, o', t1, t2, t3, t4, t5, t6, t7⟩
      · exact Or.inl ⟨⟨o.r, o.w, false, .tup [], hp⟩ :: tr, ⟨⟨hg, (fun e => by cases e), fun _ => ⟨rfl, rfl⟩, fun _ => rfl⟩, t1⟩, by simp [t2], gconds_cons (fun e => by cases e) k4 (by simpa using t3), t4⟩
      · exact Or.inr ⟨⟨o.r, o.w, false, .tup [], hp⟩ :: tr, o', ⟨⟨hg, (fun e => by cases e), fun _ => ⟨rfl, rfl⟩, fun _ => rfl⟩, t1⟩, by simpa using t2, by simp [t3], gconds_cons (fun e => by cases e) k4 (by simpa using t4), t5, t6, t7⟩
    simp only [gd] at h
    cases hg : o.r.g with
    | none =>
      rw [hg] at h
      exact step (.inl ⟨hg, rfl⟩) h
    | some p =>
      obtain ⟨j, want⟩ := p
      rw [hg] at h
      simp only at h
      split at h
      · rename_i b hb
        obtain ⟨h1, h2⟩ := h
        cases hq : b == want with
        | true => exact step (.inr (.inl ⟨j, want, b, hg, hb, hq.symm⟩)) (h1 hq)
        | false => exact skip (.inr (.inl ⟨j, want, b, hg, hb, hq.symm⟩)) (h2 hq).1 (h2 hq).2
      · rename_i hb
        exact skip (.inr (.inr ⟨j, want, hg, hb, rfl⟩)) h.1 h.2
      · exact h.elim

/-! #### it is sound -/
def DOp.T (x : DOp) : Bool := x.r.k.turns x.w
def DOp.L (x : DOp) : Bool := x.r.k.looks x.w

def slotClash (x y : ROp) : Bool := inL x.d y.reads || inL y.d x.reads || (x.d.isSome && x.d == y.d)

/-- Two operations that nothing orders. -/
def free2 (j : Nat) (x y : DOp) : Bool :=
  !(slotClash x.r y.r) && !x.p && !(x.T && y.T) && (!(x.T && y.L) || (y.ub.contains j && x.sv)) && (!(x.L && y.T) || (y.ua.contains j && x.sp)) && !(y.p && x.T)

def GIndep (ops : Array Oper) (rl : List DOp) : Prop :=
  ∀ j i x y, j < i → rl[j]? = some x → rl[i]? = some y → Anc ops j i ∨ free2 j x y = true

theorem least {p : Nat → Prop} : ∀ {n : Nat}, (∃ j, j < n ∧ p j) → ∃ j, j < n ∧ p j ∧ ∀ k, k < j → ¬ p k
  | 0, ⟨j, h, _⟩ => by omega
  | n + 1, ⟨j, h, hj⟩ => by
    by_cases h' : ∃ k, k < n ∧ p k
    · obtain ⟨k, h1, h2, h3⟩ := least h'
      exact ⟨k, by omega, h2, h3⟩
    · have : j = n := by
        rcases Nat.lt_or_ge j n with h4 | h4
        · exact absurd ⟨j, h4, hj⟩ h'
        · omega
      subst this
      exact ⟨j, by omega, hj, fun k hk hpk => h' ⟨k, hk, hpk⟩⟩

theorem greatest {p : Nat → Prop} : ∀ {n : Nat}, (∃ j, j < n ∧ p j) → ∃ j, j < n ∧ p j ∧ ∀ k, j < k → k < n → ¬ p k
  | 0, ⟨j, h, _⟩ => by omega
  | n + 1, ⟨j, h, hj⟩ => by
    by_cases h' : p n
    · exact ⟨n, by omega, h', fun k h1 h2 => by omega⟩
    · have : j < n := by
        rcases Nat.lt_or_ge j n with h4 | h4
        · exact h4
        · have : j = n := by omega
          subst this; exact absurd hj h'
      obtain ⟨k, h1, h2, h3⟩ := greatest (n := n) ⟨j, this, hj⟩
      refine ⟨k, by omega, h2, fun m hm1 hm2 => ?_⟩
      by_cases hmn : m = n
      · subst hmn; exact h'
      · exact h3 m hm1 (by omega)

theorem hpOf_take_succ : ∀ (tr : List Ev) (h : Hp) (j : Nat) (e : Ev), tr[j]? = some e → hpOf h (tr.take (j + 1)) = e.h1
  | [], h, j, e, he => by simp at he
  | x :: r, h, j, e, he => by
    rcases j with _ | j
    · simp at he; subst he; simp [hpOf]
    · simp only [List.take_succ_cons, hpOf]
      exact hpOf_take_succ r x.h1 j e (by simpa using he)

theorem gdraw_core {P : Program} {E : Ent P} {n : Nat} {ops : Array Oper} {rl : List DOp} (hol : OList P n E.lo ops (List.range ops.size) (rl.map (·.r))) (hind : GIndep ops rl)
    {tm0 : Tm} {hp0 : Hp} {tr : List Ev} (htr : TraceOK P tm0 hp0 tr) (hmap : tr.map (fun e => (e.r, e.w)) = (rl.take tr.length).map (fun o => (o.r, o.w))) (hcs : GConds P rl [] [] 0 tm0 hp0 tr) {Kp : Value → Hp → Prop} {Q : Exit → Act → World → Prop}
    (hend : (tr.length = rl.length ∧ ∀ ρ a w, SInv E n (tmOf tm0 tr) (hpOf hp0 tr) a w ρ → Q .normal a w) ∨
      (∃ o, rl[tr.length]? = some o ∧ o.p = true ∧ GuardT (tmOf tm0 tr) o.r ∧ aop1 P (tmOf tm0 tr) (hpOf hp0 tr) o.r.k (fun _ _ => False) Kp))
    (hQp : ∀ v hp ρ a w, Kp v hp → HInv E hp ρ w → a.defers = E.D → (∀ t, t < E.lo → a.tmps[t]? = E.tms[t]?) → Q (.panic [{ v, recovered := false }]) a w) {l : List Nat} {done : Nat → Bool} (hv : Valid ops done l) :
    ClosedD ops done → (∀ i, done i = true → i < tr.length) → ∀ (ρ : Rho) (a : Act) (w : World), SInv E n (tmD done 0 tr tm0) (hpD done 0 tr hp0) a w ρ → wpOps P ops Q l a w := by
  have hlen : rl.length = ops.size := by
    have := (olist_get hol).1
    simpa using this.symm
  have hrl : ∀ (j : Nat) (x : Ev), tr[j]? = some x → ∃ y, rl[j]? = some y ∧ y.r = x.r ∧ y.w = x.w := by
    intro j x hx
    have hj := (List.getElem?_eq_some_iff.1 hx).1
    have h1 : (tr.map (fun e => (e.r, e.w)))[j]? = some (x.r, x.w) := by simp [hx]
    rw [hmap, List.getElem?_map, List.getElem?_take, if_pos hj] at h1
    cases hq : rl[j]? with
    | none => simp [hq] at h1
    | some y =>
      simp only [hq, Option.map_some, Option.some.injEq, Prod.mk.injEq] at h1
      exact ⟨y, rfl, h1.1, h1.2⟩
  have hT : ∀ {x : Ev} {y : DOp}, y.r = x.r → y.w = x.w → x.turns = y.T := by intro x y h1 h2; simp [Ev.turns, DOp.T, h1, h2]
  induction hv with
  | nil done hd =>
    intro hc hlt ρ a w hI
    rcases hend with ⟨hN, hQ⟩ | ⟨o, ho, _⟩
    · have e1 : ∀ i e, tr[i]? = some e → done (0 + i) = decide (0 + i < 0 + tr.length) := by
        intro i e he
        have hi := (List.getElem?_eq_some_iff.1 he).1
        rw [hd (0 + i) (by omega)]
        simp; omega
      refine hQ ρ a w ?_
      have e2 : hpD done 0 tr hp0 = hpOf hp0 tr := by
        rw [hpD_congr done (fun i => decide (i < 0 + tr.length)) tr 0 hp0 (fun i e he _ => e1 i e he), hpD_take tr 0 tr.length tm0 hp0 htr, List.take_length]
      rw [← e2]
      refine hI.get_eq fun t => ?_
      rw [tmD_congr done (fun i => decide (i < 0 + tr.length)) t tr 0 tm0 tm0 rfl (fun i e he _ => e1 i e he), tmD_take, List.take_length]
    · have := (List.getElem?_eq_some_iff.1 ho).1
      have := hlt tr.length (hd tr.length (by omega))
      omega
  | cons done i l hdi hrd hvr ih =>
    intro hc hlt ρ a w hI
    obtain ⟨o, ho, hbef⟩ := hrd
    have hi := (Array.getElem?_eq_some_iff.1 ho).1
    obtain ⟨o', r, ho', hr', hor⟩ := (olist_get hol).2 i i (by simp [hi])
    rw [ho] at ho'
    simp only [Option.some.injEq] at ho'
    subst ho'
    obtain ⟨x, hx⟩ : ∃ x, rl[i]? = some x := ⟨rl[i], List.getElem?_eq_getElem (by omega)⟩
    have hxr : x.r = r := by simpa [hx] using hr'
    -- who is in order with whom
    have before : ∀ j y, rl[j]? = some y → j < i → free2 j y x = false → done j = true := fun j y hy hji hf => by
      rcases hind j i y x hji hy hx with h | h
      · exact anc_done hc h ⟨o, ho, hbef⟩
      · rw [hf] at h; cases h
    have after : ∀ j y, rl[j]? = some y → i < j → free2 i x y = false → done j = false := by
      intro j y hy hij hf
      rcases hind i j x y hij hx hy with h | h
      · cases hq : done j with
        | false => rfl
        | true =>
          have := hc i j h hq
          rw [hdi] at this; cases this
      · rw [hf] at h; cases h
    have hNi : i ≤ tr.length := by
      rcases Nat.lt_or_ge tr.length i with h | h
      · exfalso
        rcases hend with ⟨hN, _⟩ | ⟨o2, ho2, hp2, _⟩
        · omega
        · have := before tr.length o2 ho2 h (by simp [free2, hp2])
          have := hlt _ this
          omega
      · exact h
    have slots : ∀ t, t ∈ x.r.reads → (tmD done 0 tr tm0).get t = (tmOf tm0 (tr.take i)).get t := by
      intro t ht
      rw [← tmD_take tr 0 i tm0]
      refine tmD_congr _ _ t tr 0 tm0 tm0 rfl fun j e' he' hd => ?_
      obtain ⟨y, hy, hy1, hy2⟩ := hrl j e' he'
      simp only [Nat.zero_add]
      rcases Nat.lt_trichotomy j i with h | h | h
      · rw [before j y hy h (by simp [free2, slotClash, hy1, hd, inL, ht])]; simp [h]
      · subst h; rw [hdi]; simp
      · rw [after j y hy h (by simp [free2, slotClash, hy1, hd, inL, ht])]; simp; omega
    have agree : Agree (tmOf tm0 (tr.take i)) (tmD done 0 tr tm0) x.r.k.ods := by
      intro z hz
      cases z with
      | c v => rfl
      | t m => simp only [odv]; rw [slots m (by simp only [ROp.reads, List.mem_append]; exact .inr (odSlots_mem hz))]
    -- what a guard says
    have guard : ∀ (e : Ev), e.r = x.r → GuardOK (tmOf tm0 (tr.take i)) e → Region.wanted o (yielded ops a.tmps) = e.act := by
      intro e her hge
      rcases hge with ⟨hg, hact⟩ | ⟨j, want, b, hg, hb, hact⟩ | ⟨j, want, hg, hb, hact⟩
      · have hog : o.guard = none := by
          have hgg := hor.g
          cases hq : o.guard with
          | none => rfl
          | some p =>
            obtain ⟨j, want⟩ := p
            simp only [hq] at hgg
            obtain ⟨_, t, _, _, h3⟩ := hgg
            rw [her, hxr] at hg; rw [hg] at h3; cases h3
        rw [hact]
        simp [Region.wanted, hog]
      · have hb' := hb
        rw [her] at hg
        rw [← slots j (by simp [ROp.reads, hg])] at hb'
        have hgg := hor.g
        cases hog : o.guard with
        | none =>
          simp only [hog] at hgg
          rw [hxr] at hg; rw [hg] at hgg; cases hgg
        | some p =>
          obtain ⟨jj, want'⟩ := p
          simp only [hog] at hgg
          obtain ⟨oj, t, h1, h2, h3⟩ := hgg
          rw [hxr] at hg
          rw [hg] at h3
          simp only [Option.some.injEq, Prod.mk.injEq] at h3
          obtain ⟨rfl, rfl⟩ := h3
          have hvv := (hI.tr j _ hb').scI
          have hy := yielded_eq h1 h2 hvv
          rw [hact]
          simp only [Region.wanted, hog, hy]
          cases b <;> cases want <;> rfl
      · have hb' := hb
        rw [her] at hg
        rw [← slots j (by simp [ROp.reads, hg])] at hb'
        have hgg := hor.g
        cases hog : o.guard with
        | none =>
          simp only [hog] at hgg
          rw [hxr] at hg; rw [hg] at hgg; cases hgg
        | some p =>
          obtain ⟨jj, want'⟩ := p
          simp only [hog] at hgg
          obtain ⟨oj, t, h1, h2, h3⟩ := hgg
          rw [hxr] at hg
          rw [hg] at h3
          simp only [Option.some.injEq, Prod.mk.injEq] at h3
          obtain ⟨rfl, rfl⟩ := h3
          have hy := yielded_undef h1 h2 (hI.tr j _ hb')
          rw [hact]
          simp [Region.wanted, hog, hy]
    -- the turning ones are in order
    have heapT : (∀ j y, rl[j]? = some y → y.T = true → j < i → free2 j y x = false) → (∀ j y, rl[j]? = some y → y.T = true → i < j → free2 i x y = false) → hpD done 0 tr hp0 = hpOf hp0 (tr.take i) := by
      intro hb ha
      rw [← hpD_take tr 0 i tm0 hp0 htr]
      refine hpD_congr _ _ tr 0 hp0 fun j e' he' hd => ?_
      obtain ⟨y, hy, hy1, hy2⟩ := hrl j e' he'
      have hyT : y.T = true := by rw [← hT hy1 hy2]; exact hd
      simp only [Nat.zero_add]
      rcases Nat.lt_trichotomy j i with h | h | h
      · rw [before j y hy h (hb j y hy hyT h)]; simp [h]
      · subst h; rw [hdi]; simp
      · rw [after j y hy h (ha j y hy hyT h)]; simp; omega
    have turnord : ∀ j k y z, rl[j]? = some y → rl[k]? = some z → y.T = true → z.T = true → j < k → done k = true → done j = true := by
      intro j k y z hy hz h1 h2 hjk hdk
      rcases hind j k y z hjk hy hz with h | h
      · exact hc j k h hdk
      · simp [free2, h1, h2] at h
    simp only [wpOps, ho]
    rcases Nat.lt_or_ge i tr.length with hiN | hiN
    · obtain ⟨e, he⟩ : ∃ e, tr[i]? = some e := ⟨tr[i], List.getElem?_eq_getElem hiN⟩
      obtain ⟨x', hx', her, hew⟩ := hrl i e he
      rw [hx] at hx'
      simp only [Option.some.injEq] at hx'
      subst hx'
      have hev := trace_at htr i e he
      let done' : Nat → Bool := fun j => done j || j == i
      have hc' : ClosedD ops done' := closed_step hc ⟨o, ho, hbef⟩
      have hlt' : ∀ j, done' j = true → j < tr.length := by
        intro j hj
        simp only [done', Bool.or_eq_true, beq_iff_eq] at hj
        rcases hj with h | rfl
        · exact hlt j h
        · exact hiN
      have get' : ∀ t, (tmD done' 0 tr tm0).get t = (tput (tmD done 0 tr tm0) e.r.d e.lv).get t := by
        intro t
        rw [tput_get]
        split
        · rename_i hd
          refine tmD_last done' t tr 0 tm0 i e he hd (by simp [done']) fun j e' hij he' hdx => ?_
          obtain ⟨y, hy, hy1, hy2⟩ := hrl j e' he'
          simp only [Nat.zero_add, done']
          have := after j y hy hij (by simp [free2, slotClash, hy1, her, hd, hdx])
          simp [this]; omega
        · rename_i hd
          refine tmD_congr _ _ t tr 0 tm0 tm0 rfl fun j e' he' hdx => ?_
          simp only [Nat.zero_add, done']
          have : ¬ j = i := by
            intro h; subst h
            rw [he] at he'
            simp only [Option.some.injEq] at he'
            subst he'
            exact hd hdx
          simp [this]
      have hnew : SInv E n (tput (tmD done 0 tr tm0) e.r.d e.lv) (hpD done' 0 tr hp0) a w ρ → True := fun _ => trivial
      cases hxT : x.T with
      | true =>
        have het : e.turns = true := by rw [hT her hew]; exact hxT
        have hH : hpD done 0 tr hp0 = hpOf hp0 (tr.take i) := heapT (fun j y hy h1 _ => by simp [free2, h1, hxT]) (fun j y hy h1 _ => by simp [free2, h1, hxT])
        have hH' : hpD done' 0 tr hp0 = e.h1 := by
          refine hpD_last done' tr 0 hp0 i e he het (by simp [done']) fun j e' hij he' htx => ?_
          obtain ⟨y, hy, hy1, hy2⟩ := hrl j e' he'
          have hyT : y.T = true := by rw [← hT hy1 hy2]; exact htx
          simp only [Nat.zero_add, done']
          have := after j y hy hij (by simp [free2, hyT, hxT])
          simp [this]; omega
        rw [guard e her.symm hev.1]
        cases hact : e.act with
        | true =>
          simp only [if_true]
          refine .inl ?_
          have h1 := hev.2.1 hact
          have h2 : aop1 P (tmD done 0 tr tm0) (hpD done 0 tr hp0) e.r.k (fun lv' hp' => lv' = e.lv ∧ hp' = hpD done' 0 tr hp0) (fun _ _ => False) := by
            rw [hH, hH']
            exact aop1_congr (by rw [← her]; exact agree) h1
          rw [← her, hxr] at h2
          refine aop1_sound hI hor.k h2 (fun lv hp' ρ' v w' hK hv hH' hx => ?_) (fun v hp' ρ' w' hk hi => hk.elim)
          obtain ⟨rfl, rfl⟩ := hK
          refine ih hc' hlt' ρ' _ _ ?_
          refine SInv.get_eq (tm := tput (tmD done 0 tr tm0) e.r.d e.lv) ⟨?_, ⟨hH', hI.h.ext.trans hx⟩, by rw [put_size]; exact hI.size, by rw [put_defers]; exact hI.defers, pin_put hI.pin hor.ge⟩ get'
          rw [← her, hxr, hor.d]
          exact (hI.tr.keep hx).put hI.size o.dst hor.lt hv
        | false =>
          simp only [Bool.false_eq_true, if_false]
          obtain ⟨h1, h2⟩ := hev.2.2.1 hact
          refine ih hc' hlt' ρ _ _ ?_
          rw [hH', h2, ← hH]
          refine SInv.get_eq (tm := tput (tmD done 0 tr tm0) e.r.d e.lv) ⟨?_, hI.h, by rw [put_size]; exact hI.size, by rw [put_defers]; exact hI.defers, pin_put hI.pin hor.ge⟩ get'
          rw [← her, hxr, hor.d, h1]
          exact hI.tr.put hI.size o.dst hor.lt (lrep_undef _ _ _)
      | false =>
        have het : e.turns = false := by rw [hT her hew]; exact hxT
        have hH' : hpD done' 0 tr hp0 = hpD done 0 tr hp0 := by
          refine hpD_congr _ _ tr 0 hp0 fun j e' he' htx => ?_
          simp only [Nat.zero_add, done']
          have : ¬ j = i := by
            intro h; subst h
            rw [he] at he'
            simp only [Option.some.injEq] at he'
            subst he'
            rw [het] at htx; cases htx
          simp [this]
        rw [guard e her.symm hev.1]
        cases hact : e.act with
        | true =>
          simp only [if_true]
          refine .inl ?_
          have hsame : Same P (tmOf tm0 (tr.take i)) (hpD done 0 tr hp0) e.r.k e.lv := by
            cases hl : x.L with
            | false =>
              have h1 := same_of_ok hev hact het
              exact aop1_pure (w := x.w) (by rw [← her]; exact hl) h1
            | true =>
              by_cases hA : ∃ j, j < i ∧ (∃ y, rl[j]? = some y ∧ y.T = true) ∧ done j = false
              · obtain ⟨j, hji, ⟨⟨y, hy, hyT⟩, hdj⟩, hmin⟩ := least hA
                have hf : free2 j y x = true := by
                  cases hq : free2 j y x with
                  | true => rfl
                  | false => have := before j y hy hji hq; rw [hdj] at this; cases this
                have hfu : x.ub.contains j = true ∧ y.sv = true := by
                  simp only [free2, Bool.and_eq_true, Bool.or_eq_true, Bool.not_eq_true', hyT, hl, Bool.true_and] at hf
                  rcases hf.1.1.2 with h | h
                  · simp at h
                  · exact h
                have hh : hpD done 0 tr hp0 = hpOf hp0 (tr.take j) := by
                  rw [← hpD_take tr 0 j tm0 hp0 htr]
                  refine hpD_congr _ _ tr 0 hp0 fun k e' he' hd => ?_
                  obtain ⟨z, hz, hz1, hz2⟩ := hrl k e' he'
                  have hzT : z.T = true := by rw [← hT hz1 hz2]; exact hd
                  simp only [Nat.zero_add]
                  rcases Nat.lt_trichotomy k j with h | h | h
                  · have : done k = true := by
                      cases hq : done k with
                      | true => rfl
                      | false => exact absurd ⟨⟨z, hz, hzT⟩, hq⟩ (hmin k h)
                    rw [this]; simp [h]
                  · subst h; rw [hdj]; simp
                  · have : done k = false := by
                      cases hq : done k with
                      | false => rfl
                      | true => have := turnord j k y z hy hz hyT hzT h hq; rw [hdj] at this; cases this
                    rw [this]; simp; omega
                rw [hh]
                exact hcs.c1b i e x he hx hact j y hji hy hfu.2 (by simpa using hfu.1)
              · by_cases hB : ∃ j, j < tr.length ∧ (i < j ∧ (∃ y, rl[j]? = some y ∧ y.T = true) ∧ done j = true)
                · obtain ⟨j, hjN, ⟨hij, ⟨y, hy, hyT⟩, hdj⟩, hmax⟩ := greatest hB
                  obtain ⟨ej, hej⟩ : ∃ ej, tr[j]? = some ej := ⟨tr[j], List.getElem?_eq_getElem hjN⟩
                  have hf : free2 i x y = true := by
                    cases hq : free2 i x y with
                    | true => rfl
                    | false => have := after j y hy hij hq; rw [hdj] at this; cases this
                  have hfu : y.ua.contains i = true ∧ x.sp = true := by
                    simp only [free2, Bool.and_eq_true, Bool.or_eq_true, Bool.not_eq_true', hyT, hl, Bool.true_and] at hf
                    rcases hf.1.2 with h | h
                    · simp at h
                    · exact h
                  have hh : hpD done 0 tr hp0 = ej.h1 := by
                    rw [← hpOf_take_succ tr hp0 j ej hej, ← hpD_take tr 0 (j + 1) tm0 hp0 htr]
                    refine hpD_congr _ _ tr 0 hp0 fun k e' he' hd => ?_
                    obtain ⟨z, hz, hz1, hz2⟩ := hrl k e' he'
                    have hzT : z.T = true := by rw [← hT hz1 hz2]; exact hd
                    have hkN := (List.getElem?_eq_some_iff.1 he').1
                    simp only [Nat.zero_add]
                    rcases Nat.lt_trichotomy k j with h | h | h
                    · rw [turnord k j z y hz hy hzT hyT h hdj]; simp; omega
                    · subst h; rw [hdj]; simp
                    · have : done k = false := by
                        cases hq : done k with
                        | false => rfl
                        | true => exact absurd ⟨by omega, ⟨z, hz, hzT⟩, hq⟩ (hmax k h hkN)
                      rw [this]; simp; omega
                  rw [hh]
                  exact hcs.c2b j ej y hej hy i e x hij he hx hfu.2 hact (by simpa using hfu.1)
                · have hh : hpD done 0 tr hp0 = hpOf hp0 (tr.take i) := by
                    rw [← hpD_take tr 0 i tm0 hp0 htr]
                    refine hpD_congr _ _ tr 0 hp0 fun k e' he' hd => ?_
                    obtain ⟨z, hz, hz1, hz2⟩ := hrl k e' he'
                    have hzT : z.T = true := by rw [← hT hz1 hz2]; exact hd
                    have hkN := (List.getElem?_eq_some_iff.1 he').1
                    simp only [Nat.zero_add]
                    rcases Nat.lt_trichotomy k i with h | h | h
                    · have : done k = true := by
                        cases hq : done k with
                        | true => rfl
                        | false => exact absurd ⟨k, h, ⟨z, hz, hzT⟩, hq⟩ hA
                      rw [this]; simp [h]
                    · subst h; rw [hdi]; simp
                    · have : done k = false := by
                        cases hq : done k with
                        | false => rfl
                        | true => exact absurd ⟨k, hkN, h, ⟨z, hz, hzT⟩, hq⟩ hB
                      rw [this]; simp; omega
                  rw [hh]
                  exact same_of_ok hev hact het
          have h2 : aop1 P (tmD done 0 tr tm0) (hpD done 0 tr hp0) e.r.k (fun lv' hp' => lv' = e.lv ∧ hp' = hpD done' 0 tr hp0) (fun _ _ => False) := by
            rw [hH']
            exact aop1_congr (by rw [← her]; exact agree) hsame
          rw [← her, hxr] at h2
          refine aop1_sound hI hor.k h2 (fun lv hp' ρ' v w' hK hv hH' hx => ?_) (fun v hp' ρ' w' hk hi => hk.elim)
          obtain ⟨rfl, rfl⟩ := hK
          refine ih hc' hlt' ρ' _ _ ?_
          refine SInv.get_eq (tm := tput (tmD done 0 tr tm0) e.r.d e.lv) ⟨?_, ⟨hH', hI.h.ext.trans hx⟩, by rw [put_size]; exact hI.size, by rw [put_defers]; exact hI.defers, pin_put hI.pin hor.ge⟩ get'
          rw [← her, hxr, hor.d]
          exact (hI.tr.keep hx).put hI.size o.dst hor.lt hv
        | false =>
          simp only [Bool.false_eq_true, if_false]
          obtain ⟨h1, h2⟩ := hev.2.2.1 hact
          refine ih hc' hlt' ρ _ _ ?_
          rw [hH']
          refine SInv.get_eq (tm := tput (tmD done 0 tr tm0) e.r.d e.lv) ⟨?_, hI.h, by rw [put_size]; exact hI.size, by rw [put_defers]; exact hI.defers, pin_put hI.pin hor.ge⟩ get'
          rw [← her, hxr, hor.d, h1]
          exact hI.tr.put hI.size o.dst hor.lt (lrep_undef _ _ _)
    · -- the one that panics
      have hiN' : i = tr.length := by omega
      subst hiN'
      rcases hend with ⟨hN, _⟩ | ⟨o2, ho2, hp2, hg2, h2⟩
      · omega
      rw [hx] at ho2
      simp only [Option.some.injEq] at ho2
      subst ho2
      rw [List.take_length] at *
      have hH : hpD done 0 tr hp0 = hpOf hp0 tr := by
        have := heapT (fun j y hy h1 _ => by simp [free2, h1, hp2]) (fun j y hy h1 _ => by simp [free2, hp2])
        exact this
      have hw := guard ⟨x.r, false, true, .tup [], ⟨[], 0⟩⟩ rfl hg2
      rw [hw]
      simp only [if_true]
      refine .inl ?_
      have h3 : aop1 P (tmD done 0 tr tm0) (hpD done 0 tr hp0) x.r.k (fun _ _ => False) Kp := by
        rw [hH]
        exact aop1_congr agree h2
      rw [hxr] at h3
      exact aop1_sound hI hor.k h3 (fun lv hp' ρ' v w' hK hv hH' hx => hK.elim) (fun v hp' ρ' w' hk hi => hQp v hp' ρ' a w' hk hi hI.defers hI.pin)

theorem gdraw_sound {P : Program} {E : Ent P} {n : Nat} {ops : Array Oper} {rl : List DOp} (hol : OList P n E.lo ops (List.range ops.size) (rl.map (·.r))) (hlow : LowE ops) (hind : GIndep ops rl)
    {K : Tm → Hp → Prop} {Kp : Value → Hp → Prop} {tm : Tm} {hp : Hp} {Q : Exit → Act → World → Prop} (hQ : ∀ tm hp ρ a w, K tm hp → SInv E n tm hp a w ρ → Q .normal a w)
    (hQp : ∀ v hp ρ a w, Kp v hp → HInv E hp ρ w → a.defers = E.D → (∀ t, t < E.lo → a.tmps[t]? = E.tms[t]?) → Q (.panic [{ v, recovered := false }]) a w)
    (h : gd P rl K Kp [] [] 0 tm hp) {ρ : Rho} {a : Act} {w : World} (hI : SInv E n tm hp a w ρ) (t : Nat) : wpOps P ops Q (Region.schedule (P.follows .mixedOrders) ops t) a w := by
  have hs : ∃ m t', Region.schedule (P.follows .mixedOrders) ops t = Region.linearise m ops t' := by
    unfold Region.schedule
    split
    · exact ⟨_, _, rfl⟩
    · exact ⟨_, _, rfl⟩
  obtain ⟨m, t', hs⟩ := hs
  obtain ⟨r, hr⟩ := hlow m
  rw [hs]
  have hI0 : ∀ tr : List Ev, SInv E n (tmD (fun _ => false) 0 tr tm) (hpD (fun _ => false) 0 tr hp) a w ρ := by
    intro tr
    have e1 : ∀ (tr : List Ev) (k : Nat) (tm : Tm), tmD (fun _ => false) k tr tm = tm := by
      intro tr
      induction tr with
      | nil => intro k tm; rfl
      | cons x r ih => intro k tm; simp only [tmD]; exact ih _ _
    have e2 : ∀ (tr : List Ev) (k : Nat) (h : Hp), hpD (fun _ => false) k tr h = h := by
      intro tr
      induction tr with
      | nil => intro k h; rfl
      | cons x r ih => intro k h; simp only [hpD]; exact ih _ _
    rw [e1, e2]
    exact hI
  rcases gd_trace h with ⟨tr, h1, h2, h3, h4⟩ | ⟨tr, o, h1, h2, h3, h4, h5, h6, h7⟩
  · have hl : tr.length = rl.length := by have := congrArg List.length h2; simpa using this
    refine gdraw_core hol hind h1 (by rw [hl, List.take_length]; exact h2) h3 (.inl ⟨hl, fun ρ a w hI => hQ _ _ ρ a w h4 hI⟩) hQp (linearise_valid m ops r hr t') (fun i j _ hj => by cases hj) (fun i hi => by cases hi) ρ a w (hI0 tr)
  · exact gdraw_core hol hind h1 h3 h4 (.inr ⟨o, h2, h5, h6, h7⟩) hQp (linearise_valid m ops r hr t') (fun i j _ hj => by cases hj) (fun i hi => by cases hi) ρ a w (hI0 tr)

/-! #### is it so? -/
def gmarks (imm : Nat → Bool) (ops : Array Oper) (rl : List ROp) : List DOp :=
  let A := ancs ops.toList []
  let W := rl.map fun o => match o.d with
    | some d => !(imm d)
    | none => true
  let T := (List.range rl.length).map fun i => match rl[i]? with
    | some o => o.k.turns (W.getD i true)
    | none => false
  let L := (List.range rl.length).map fun i => match rl[i]? with
    | some o => o.k.looks (W.getD i true)
    | none => false
  let B := (List.range rl.length).map fun i => (List.range i).filter fun j => T.getD j false && L.getD i false && !((A.getD i 0).testBit j)
  let F := (List.range rl.length).map fun i => (List.range i).filter fun j => L.getD j false && T.getD i false && !((A.getD i 0).testBit j)
  (List.range rl.length).filterMap fun i => match rl[i]? with
    | some o => some ⟨o, W.getD i true, (match o.d with
        | some d => imm (d + 100000)
        | none => false), B.getD i [], F.getD i [], B.any (fun l => l.contains i), F.any (fun l => l.contains i)⟩
    | none => none

def gindepB (ops : Array Oper) (rl : List DOp) : Bool :=
  let A := ancs ops.toList []
  (List.range rl.length).all fun i => match rl[i]? with
    | some y => (List.range i).all fun j => match rl[j]? with
      | some x => (A.getD i 0).testBit j || free2 j x y
      | none => true
    | none => true

theorem gindepB_ok {ops : Array Oper} {rl : List DOp} (h : gindepB ops rl = true) : GIndep ops rl := by
  intro j i x y hji hx hy
  have hi := (List.getElem?_eq_some_iff.1 hy).1
  have h1 := (List.all_eq_true.1 h) i (by simpa using hi)
  simp only [hy] at h1
  have h2 := (List.all_eq_true.1 h1) j (by simpa using hji)
  simp only [hx, Bool.or_eq_true] at h2
  rcases h2 with h2 | h2
  · left
    cases hq : (ancs ops.toList [])[i]? with
    | none => simp [List.getD, hq] at h2
    | some m =>
      simp only [List.getD, hq, Option.getD_some] at h2
      exact ancs_ok ops.toList [] (fun i o h => by simpa using h) (fun i m j h => by simp at h) i m j hq h2
  · exact .inr h2

theorem gmarks_map (imm : Nat → Bool) (ops : Array Oper) (rl : List ROp) : (gmarks imm ops rl).map (·.r) = rl := by
  unfold gmarks
  simp only
  apply List.ext_getElem?
  intro i
  have key : ∀ (f : Nat → ROp → DOp) (hf : ∀ i o, (f i o).r = o) (l : List Nat), (∀ j ∈ l, j < rl.length) → ((l.filterMap fun i => match rl[i]? with
    | some o => some (f i o)
    | none => none).map (·.r)) = l.filterMap fun i => rl[i]? := by
    intro f hf l
    induction l with
    | nil => intro _; rfl
    | cons j r ih =>
      intro hl
      have hj := hl j (by simp)
      simp only [List.filterMap_cons, List.getElem?_eq_getElem hj, List.map_cons, hf]
      rw [ih fun k hk => hl k (by simp [hk])]
  have k2 : ∀ (rl : List ROp), ((List.range rl.length).filterMap fun i => rl[i]?) = rl := by
    intro rl
    apply List.ext_getElem?
    intro i
    have : ∀ (n : Nat), n ≤ rl.length → (List.range n).filterMap (fun i => rl[i]?) = rl.take n := by
      intro n
      induction n with
      | zero => intro _; simp
      | succ n ih =>
        intro hn
        rw [List.range_succ, List.filterMap_append, ih (by omega), List.take_add_one]
        simp [List.getElem?_eq_getElem (show n < rl.length by omega)]
    rw [this _ (Nat.le_refl _), List.take_length]
  rw [key (fun i o => ⟨o, _, _, _, _, _, _⟩) (fun i o => rfl) _ (fun j hj => by simpa using hj), k2]
end Go.Av

namespace Go.Av
open Go.RowKit

theorem aops_sound {P : Program} {E : Ent P} {n : Nat} {ops : Array Oper} {Q : Exit → Act → World → Prop} {K : Tm → Hp → Prop} {Kp : Value → Hp → Prop}
    (hQ : ∀ tm hp ρ a w, K tm hp → SInv E n tm hp a w ρ → Q .normal a w)
    (hp : ∀ v hp ρ a w, Kp v hp → HInv E hp ρ w → a.defers = E.D → (∀ t, t < E.lo → a.tmps[t]? = E.tms[t]?) → Q (.panic [{ v, recovered := false }]) a w) {l : List Nat} {rl : List ROp} (hl : OList P n E.lo ops l rl) :
    ∀ (tm : Tm) (hp : Hp) (ρ : Rho) (a : Act) (w : World), aops P rl K Kp tm hp → SInv E n tm hp a w ρ → wpOps P ops Q l a w := by
  induction hl with
  | nil => intro tm hp ρ a w h hI; exact hQ tm hp ρ a w h hI
  | cons i o r l rl ho hor hr ih =>
    intro tm hp0 ρ a w h hI
    have run : ∀ tm', SInv E n tm' hp0 a w ρ → aop1 P tm' hp0 r.k (fun lv hp' => aops P rl K Kp (tput tm' r.d lv) hp') Kp → o.wp P a w (wpOps P ops Q l) Q := by
      intro tm' hI' h1
      refine aop1_sound hI' hor.k h1 (fun lv hp' ρ' v w' hK hv hH' hx => ?_) (fun v hp' ρ' w' hk hi => hp v hp' ρ' a w' hk hi hI.defers hI.pin)
      refine ih _ _ ρ' _ _ hK ⟨?_, ⟨hH', hI'.h.ext.trans hx⟩, by rw [put_size]; exact hI'.size, by rw [put_defers]; exact hI'.defers, pin_put hI'.pin hor.ge⟩
      rw [hor.d]
      exact (hI'.tr.keep hx).put hI'.size o.dst hor.lt hv
    have skip : ∀ tm', SInv E n tm' hp0 a w ρ → aops P rl K Kp (tput tm' r.d (.tup [])) hp0 → wpOps P ops Q l (a.put o.dst undef) w := by
      intro tm' hI' h1
      refine ih _ _ ρ _ _ h1 ⟨?_, hI'.h, by rw [put_size]; exact hI'.size, by rw [put_defers]; exact hI'.defers, pin_put hI'.pin hor.ge⟩
      rw [hor.d]
      exact hI'.tr.put hI'.size o.dst hor.lt (lrep_undef _ _ _)
    simp only [wpOps, ho]
    have hg := hor.g
    simp only [aops] at h
    cases hog : o.guard with
    | none =>
      simp only [hog] at hg
      rw [hg] at h
      have hw : Region.wanted o (yielded ops a.tmps) = true := by simp [Region.wanted, hog]
      simp only [hw, if_true]
      exact .inl (run tm hI h)
    | some p =>
      obtain ⟨j, want⟩ := p
      simp only [hog] at hg
      obtain ⟨oj, t, h1, h2, h3⟩ := hg
      rw [h3] at h
      simp only at h
      split at h
      · rename_i b hb
        have hv := (hI.tr t _ hb).scI
        have hy := yielded_eq h1 h2 hv
        obtain ⟨k1, k2⟩ := h
        have hset : ∀ c : Bool, b = c → SInv E n (tset tm t (.one (.iv (.sc (.bool c))))) hp0 a w ρ := fun c e => ⟨hI.tr.tset hb (by rw [hv, e]; exact LRep.scM rfl), hI.h, hI.size, hI.defers, hI.pin⟩
        cases b with
        | true =>
          have k := k1 rfl
          cases want with
          | true =>
            have hw : Region.wanted o (yielded ops a.tmps) = true := by simp [Region.wanted, hog, hy]
            simp only [hw, if_true]
            exact .inl (run _ (hset true rfl) k)
          | false =>
            have hw : Region.wanted o (yielded ops a.tmps) = false := by simp [Region.wanted, hog, hy]
            simp only [hw, Bool.false_eq_true, if_false]
            exact skip _ (hset true rfl) k
        | false =>
          have k := k2 rfl
          cases want with
          | true =>
            have hw : Region.wanted o (yielded ops a.tmps) = false := by simp [Region.wanted, hog, hy]
            simp only [hw, Bool.false_eq_true, if_false]
            exact skip _ (hset false rfl) k
          | false =>
            have hw : Region.wanted o (yielded ops a.tmps) = true := by simp [Region.wanted, hog, hy]
            simp only [hw, if_true]
            exact .inl (run _ (hset false rfl) k)
      · rename_i hb
        have hw : Region.wanted o (yielded ops a.tmps) = false := by simp [Region.wanted, hog, yielded_undef h1 h2 (hI.tr t _ hb)]
        simp only [hw, Bool.false_eq_true, if_false]
        exact skip tm hI h
      · exact h.elim

/-! ### less of a state -/
theorem into_ext {P : Program} {E : Ent P} {H H0 : Hp} {ρ : Rho} {w : World} {ms : List Nat} (hs : Sub ms H H0) (hI : HInv E H ρ w) (hid : ∀ b, b < E.H.nxt → ms[b]? = some b) : Ext E.H E.ρ E.w H0 (ρ.into ms H H0) w := by
  have hr : ∀ b, b < E.H.nxt → ridx ms H.nxt b = b := fun b hb => by simp [ridx, hid b hb]
  have hk : E.H.nxt ≤ ms.length := by
    rcases Nat.eq_zero_or_pos E.H.nxt with h | h
    · omega
    · have := (List.getElem?_eq_some_iff.1 (hid (E.H.nxt - 1) (by omega))).1
      omega
  have e := hI.ext
  refine ⟨by rw [hs.nxt]; exact hk, fun b sz ver rows' fz' hb h => ?_, fun b s pos' hb h => ?_, fun b es' hb h => ?_, e.keeps, e.size, fun g hg h => e.muts g hg (sub_own hs ρ g h), fun g hg => ?_, fun g hg h => e.mutsM g hg h.1, fun b x hx hn hg => ?_, e.os, e.tape, e.output⟩
  · obtain ⟨y, hy, hc⟩ := hs.blk b _ h (hs.low b _ h)
    rw [hr b hb] at hy
    obtain ⟨rows0, rfl, hl, _⟩ := hc.cellsI
    rw [List.length_map] at hl
    obtain ⟨s0, v0, rows, fz, h1, h2, h3⟩ := e.cells b sz ver rows0 fz' hb hy
    refine ⟨s0, v0, rows, fz, h1, h2, fun hv => ?_⟩
    obtain ⟨q1, q2, q3⟩ := h3 hv
    refine ⟨q1, by omega, ?_⟩
    rw [Rho.into_loc, hr b hb]; exact q3
  · obtain ⟨y, hy, hc⟩ := hs.blk b _ h (hs.low b _ h)
    rw [hr b hb] at hy
    have := hc.iterI
    subst this
    obtain ⟨pos, h1, h2⟩ := e.iter b s pos' hb hy
    refine ⟨pos, h1, ?_⟩
    rw [Rho.into_loc, hr b hb]; exact h2
  · obtain ⟨y, hy, hc⟩ := hs.blk b _ h (hs.low b _ h)
    rw [hr b hb] at hy
    have := hc.mapI
    subst this
    obtain ⟨es, h1, h2⟩ := e.map b es' hb hy
    refine ⟨es, h1, ?_⟩
    rw [Rho.into_loc, hr b hb]; exact h2
  · refine ⟨.inl (e.X g hg), ?_⟩
    rintro ⟨b, x, hx, hgb, hn, ho⟩
    obtain ⟨y, hy, _⟩ := hs.blk b _ hx (hs.low b _ hx)
    exact hI.rep.xno _ _ hy hn (by rw [hgb]; exact e.X g hg)
  · obtain ⟨y, hy, _⟩ := hs.blk b _ hx (hs.low b _ hx)
    exact e.place _ y hy hn hg

theorem wk_sound {P : Program} {E : Ent P} {n : Nat} {tm tm0 : Tm} {hp hp0 : Hp} (h : Wk E.H.nxt tm hp tm0 hp0) {a : Act} {w : World} {ρ : Rho} (hI : SInv E n tm hp a w ρ) : ∃ ρ0, SInv E n tm0 hp0 a w ρ0 := by
  obtain ⟨fz, szs, ms, hsz, hs, hc, hid, ht⟩ := h
  obtain ⟨ρ1, hH1, e1⟩ := prep_rep fz szs hsz hI.h.rep
  refine ⟨ρ1.into ms (hp.prep fz szs) hp0, fun t lv hg => ?_, ⟨hrep_into hs hc hH1, into_ext hs ⟨hH1, hI.h.ext.trans e1⟩ hid⟩, hI.size, hI.defers, hI.pin⟩
  obtain ⟨hl, lv', h1, h2⟩ := ht t lv hg
  exact lrep_into hs hl (h2.rep hH1 ((hI.tr t lv' h1).keep e1))

/-! ### code -/
inductive CRel (P : Program) (n lo : Nat) : Code → RC → Prop
  | skip : CRel P n lo .skip .skip
  | reg (id : Nat) (ops : Array Oper) (rl : List ROp) (h : OList P n lo ops (List.range ops.size) rl) : CRel P n lo (.region id ops false) (.reg rl)
  | dreg (id : Nat) (ops : Array Oper) (rl : List (ROp × Bool)) (h : OList P n lo ops (List.range ops.size) (rl.map (·.1))) (hlow : LowE ops) (hind : Indep ops rl) : CRel P n lo (.region id ops true) (.dreg rl)
  | greg (id : Nat) (ops : Array Oper) (rl : List DOp) (h : OList P n lo ops (List.range ops.size) (rl.map (·.r))) (hlow : LowE ops) (hind : GIndep ops rl) : CRel P n lo (.region id ops true) (.greg rl)
  | seq (a b : Code) (a' b' : RC) (ha : CRel P n lo a a') (hb : CRel P n lo b b') : CRel P n lo (.seq a b) (.seq a' b')
  | cond (c : Operand) (a b : Code) (c' : Od) (a' b' : RC) (hc : rsvOd c = some c') (ha : CRel P n lo a a') (hb : CRel P n lo b b') : CRel P n lo (.cond c a b) (.cond c' a' b')
  | block (id : Nat) (a : Code) (a' : RC) (ha : CRel P n lo a a') : CRel P n lo (.block id a) (.block id a')
  | loop (a : Code) (a' : RC) (ha : CRel P n lo a a') : CRel P n lo (.loop a) (.loop a')
  | exit (id : Nat) : CRel P n lo (.exit id) (.exit id)
  | ret : CRel P n lo .ret .ret

/-- A loop, its measure told beside the state. -/
theorem wp_loop_rel {P : Program} {c : Code} {Q : Exit → Act → World → Prop} (J : Nat → Act → World → Prop) {m : Nat} {a : Act} {w : World} (h0 : J m a w)
    (round : ∀ m a w, J m a w → c.wp P (Exit.then (fun a' w' => ∃ m', m' < m ∧ J m' a' w') Q) a w) : (Code.loop c).wp P Q a w := by
  intro b k cs
  have key : ∀ n a w, J n a w → ∃ e a' w', Q e a' w' ∧ Arrives P (lone (b.at a (.code c :: .inLoop c :: k)) cs w) b k cs e a' w' := by
    intro n
    induction n using Nat.strongRecOn with
    | _ n ih =>
      intro a w hJ
      obtain ⟨e, a₁, w₁, hq, harr⟩ := round n a w hJ b (.inLoop c :: k) cs
      cases e with
      | normal =>
        obtain ⟨m', hlt, hJ'⟩ := hq
        obtain ⟨e₂, a₂, w₂, hq₂, harr₂⟩ := ih m' hlt a₁ w₁ hJ'
        exact ⟨e₂, a₂, w₂, hq₂, .of_steps (Steps.trans harr (.one step_inLoop)) harr₂⟩
      | exit id => exact ⟨_, a₁, w₁, hq, .pass (x := .inLoop c) rfl (fun _ _ => .inl (by simp)) harr⟩
      | goto l => exact ⟨_, a₁, w₁, hq, .pass (x := .inLoop c) rfl (fun _ _ => .inl (by simp)) harr⟩
      | ret => exact ⟨_, a₁, w₁, hq, .pass (x := .inLoop c) rfl (fun _ _ => .inl (by simp)) harr⟩
      | panic ch => exact ⟨_, a₁, w₁, hq, .pass (x := .inLoop c) rfl (fun _ _ => .inl (by simp)) harr⟩
      | outgrown => exact ⟨_, a₁, w₁, hq, .pass (x := .inLoop c) rfl (fun _ _ => .inl (by simp)) harr⟩
  obtain ⟨e, a', w', hq, harr⟩ := key m a w h0
  exact ⟨e, a', w', hq, .of_steps (.one step_loop) harr⟩

theorem awp_sound {P : Program} {E : Ent P} {n : Nat} {c : Code} {rc : RC} (hc : CRel P n E.lo c rc) : ∀ (Q : AX → Tm → Hp → Prop) (tm : Tm) (hp : Hp) (ρ : Rho) (a : Act) (w : World), awp P E.H.nxt rc Q tm hp → SInv E n tm hp a w ρ → c.wp P (PostOf E n Q) a w := by
  induction hc with
  | skip => intro Q tm hp ρ a w h hI; exact wp_skip ⟨tm, hp, ρ, h, hI⟩
  | reg id ops rl hl =>
    intro Q tm hp ρ a w h hI
    refine wp_region (aops_sound (K := Q .normal) (Kp := fun v hp => Q (.pan v) [] hp) (fun tm hp ρ a w hK hI => ⟨tm, hp, ρ, hK, hI⟩) (fun v hp ρ a w hk hi hd hpin => ⟨v, hp, ρ, hk, rfl, hi, hd, hpin⟩) hl tm hp ρ a w h hI)
  | dreg id ops rl hl hlow hind =>
    intro Q tm hp ρ a w h hI
    refine wp_region_draw fun t => ?_
    exact adraw_sound hl hlow hind (K := Q .normal) (fun tm hp ρ a w hK hI => ⟨tm, hp, ρ, hK, hI⟩) h hI.drew t
  | greg id ops rl hl hlow hind =>
    intro Q tm hp ρ a w h hI
    refine wp_region_draw fun t => ?_
    exact gdraw_sound hl hlow hind (K := Q .normal) (Kp := fun v hp => Q (.pan v) [] hp) (fun tm hp ρ a w hK hI => ⟨tm, hp, ρ, hK, hI⟩) (fun v hp ρ a w hk hi hd hpin => ⟨v, hp, ρ, hk, rfl, hi, hd, hpin⟩) h hI.drew t
  | seq x y x' y' hx hy ihx ihy =>
    intro Q tm hp ρ a w h hI
    refine wp_seq (wp_mono (ihx _ tm hp ρ a w h hI) fun e a w hq => ?_)
    cases e with
    | normal =>
      obtain ⟨tm', hp', ρ', h1, h2⟩ := hq
      exact ihy Q tm' hp' ρ' a w h1 h2
    | exit id => exact hq
    | ret => exact hq
    | panic chain => exact hq
    | goto => exact hq
    | outgrown => exact hq
  | cond c x y c' x' y' hcc hx hy ihx ihy =>
    intro Q tm hp ρ a w h hI
    simp only [awp] at h
    split at h
    · rename_i t
      split at h
      · rename_i b hb
        have hev : a.eval c = .bool b := by
          have := odv_rep hI.tr hcc (lv := .one (.iv (.sc (.bool b)))) hb
          exact this.scI
        have hv : a.tmps.getD t undef = .bool b := (hI.tr t _ hb).scI
        have hset : ∀ d : Bool, b = d → SInv E n (tset tm t (.one (.iv (.sc (.bool d))))) hp a w ρ := fun d e => ⟨hI.tr.tset hb (by rw [hv, e]; exact LRep.scM rfl), hI.h, hI.size, hI.defers, hI.pin⟩
        exact wp_cond_split hev (fun e => ihx Q _ hp ρ a w (h.1 e) (hset true e)) (fun e => ihy Q _ hp ρ a w (h.2 e) (hset false e))
      · exact h.elim
    · split at h
      · rename_i b
        have hev : a.eval c = .bool b := (odv_rep hI.tr hcc (lv := .one (.iv (.sc (.bool b)))) rfl).scI
        exact wp_cond_split hev (fun e => ihx Q _ hp ρ a w (h.1 e) hI) (fun e => ihy Q _ hp ρ a w (h.2 e) hI)
      · exact h.elim
  | block id x x' hx ih =>
    intro Q tm hp ρ a w h hI
    refine wp_block (wp_mono (ih _ tm hp ρ a w h hI) fun e a w hq => ?_)
    cases e with
    | normal => exact hq
    | exit i =>
      obtain ⟨tm', hp', ρ', h1, h2⟩ := hq
      simp only [Exit.inBlock]
      by_cases hid : i = id
      · simp only [hid, if_true] at h1 ⊢
        exact ⟨tm', hp', ρ', h1, h2⟩
      · simp only [if_neg hid] at h1 ⊢
        exact ⟨tm', hp', ρ', h1, h2⟩
    | ret => exact hq
    | panic chain => exact hq
    | goto => exact hq
    | outgrown => exact hq
  | loop x x' hx ih =>
    intro Q tm hp ρ a w h hI
    obtain ⟨σ, St, Hs, Inv, μ, ⟨s0, hI0, hw⟩, hround⟩ := h
    obtain ⟨ρ0, hS⟩ := wk_sound hw hI
    refine wp_loop_rel (fun m a w => ∃ s ρ, μ s = m ∧ Inv s ∧ SInv E n (St s) (Hs s) a w ρ) ⟨s0, ρ0, rfl, hI0, hS⟩ ?_
    rintro m a w ⟨s1, ρ1, rfl, hI1, hS1⟩
    refine wp_mono (ih _ _ _ ρ1 a w (hround s1 hI1) hS1) fun e a w hq => ?_
    cases e with
    | normal =>
      obtain ⟨tm', hp', ρ', ⟨s2, hI2, hlt, hw2⟩, h2⟩ := hq
      obtain ⟨ρ2, hS2⟩ := wk_sound hw2 h2
      exact ⟨_, hlt, s2, ρ2, rfl, hI2, hS2⟩
    | exit id => exact hq
    | ret => exact hq
    | panic chain => exact hq
    | goto => exact hq
    | outgrown => exact hq
  | exit id => intro Q tm hp ρ a w h hI; exact wp_exit ⟨tm, hp, ρ, h, hI⟩
  | ret => intro Q tm hp ρ a w h hI; exact wp_ret ⟨tm, hp, ρ, h, hI⟩

/-! ### functions -/
inductive RRes where
  | tmp (t : Nat)
  | cell (agg : Bool) (sz : Nat) (t : Nat)

/-- A result's value. -/
def ares1 (tm : Tm) (hp : Hp) : RRes → Option R1
  | .tmp t => match tm.get t with
    | some v => some ⟨True, v, hp⟩
    | none => none
  | .cell agg sz t => match tm.get t with
    | some v => aload hp agg sz v
    | none => none

def aress (tm : Tm) (hp : Hp) : List RRes → Option (Prop × List LV)
  | [] => some (True, [])
  | x :: r => match ares1 tm hp x, aress tm hp r with
    | some a, some (p, l) => some (a.pre ∧ p, a.lv :: l)
    | _, _ => none

def ares (tm : Tm) (hp : Hp) (rs : List RRes) : Option (Prop × LV) :=
  match aress tm hp rs with
  | some (p, [x]) => some (p, x)
  | some (p, l) => some (p, .tup l)
  | none => none

inductive ResRel (P : Program) : ResultVar → RRes → Prop
  | tmp (t : Nat) : ResRel P (.tmp t) (.tmp t)
  | cell (t : Nat) (ty : TypeId) (d : TypeDesc) (i : TypeInfo) (hd : P.underlying ty = some d) (hi : P.info? ty = some i) (h0 : 0 < i.size) : ResRel P (.cell t ty) (.cell (aggD d) i.size t)

inductive ResRels (P : Program) : List ResultVar → List RRes → Prop
  | nil : ResRels P [] []
  | cons (x : ResultVar) (y : RRes) (l : List ResultVar) (l' : List RRes) (h : ResRel P x y) (hr : ResRels P l l') : ResRels P (x :: l) (y :: l')

inductive CvR (H : Hp) : LV → LV → Prop
  | lv {x y : LV} (h : CvLV H x y) : CvR H x y
  | tup {l l' : List LV} (h : CvLVs H l l') : CvR H (.tup l) (.tup l')

inductive LLowR (n : Nat) : LV → Prop
  | lv (x : LV) (h : LLow n x) : LLowR n x
  | tup (l : List LV) (h : ∀ x ∈ l, LLow n x) : LLowR n (.tup l)

/-- How a run ends: what is told of the result, and of the heap. -/
def Fin (k : Nat) (Q : AE → Hp → Prop) (lv : LV) (hp : Hp) : Prop :=
  ∃ (fz szs ms : List Nat) (lv0 : LV) (hp0 : Hp), (∀ s ∈ szs, 0 < s) ∧ Sub ms (hp.prep fz szs) hp0 ∧ Closed hp0 ∧ (∀ b, b < k → ms[b]? = some b) ∧ LLowR hp0.nxt lv0 ∧
    CvR (hp.prep fz szs) lv (lv0.ren (ridx ms (hp.prep fz szs).nxt)) ∧ Q (.ret lv0) hp0

def FinP (k : Nat) (Q : AE → Hp → Prop) (v : Value) (hp : Hp) : Prop :=
  ∃ (fz szs ms : List Nat) (hp0 : Hp), (∀ s ∈ szs, 0 < s) ∧ Sub ms (hp.prep fz szs) hp0 ∧ Closed hp0 ∧ (∀ b, b < k → ms[b]? = some b) ∧ Q (.pan v) hp0

/-- What a function's body owes. -/
def body (P : Program) (rs : List RRes) (k : Nat) (Q : AE → Hp → Prop) : AX → Tm → Hp → Prop
  | .normal, tm, hp | .ret, tm, hp => match ares tm hp rs with
    | some (p, lv) => p ∧ Fin k Q lv hp
    | none => False
  | .pan v, _, hp => FinP k Q v hp
  | .exit _, _, _ => False

def initTm : Nat → List LV → Tm
  | _, [] => []
  | i, x :: r => (i, x) :: initTm (i + 1) r

theorem initTm_get (i : Nat) (l : List LV) (t : Nat) (lv : LV) (h : (initTm i l).get t = some lv) : i ≤ t ∧ l[t - i]? = some lv := by
  induction l generalizing i with
  | nil => cases h
  | cons x r ih =>
    simp only [initTm, Tm.get] at h
    split at h
    · rename_i e
      subst e
      simp only [Option.some.injEq] at h
      subst h
      simp
    · rename_i e
      obtain ⟨h1, h2⟩ := ih (i + 1) h
      refine ⟨by omega, ?_⟩
      obtain ⟨m, hm⟩ : ∃ m, t - i = m + 1 := ⟨t - i - 1, by omega⟩
      have : t - (i + 1) = m := by omega
      rw [this] at h2
      rw [hm]; simpa using h2

def resv (tmps : Array Value) : ResultVar → Sem Value
  | .tmp t => pure (tmps.getD t undef)
  | .cell c t => do loadVar t (← asAddr (tmps.getD c undef))

theorem results_eq (fn : Func) (tmps : Array Value) : results fn tmps = (do
    let vs ← fn.results.mapM (resv tmps)
    pure (if h : vs.size = 1 then vs[0] else .tuple vs)) := by
  unfold results
  congr 2

theorem results_sound {P : Program} {tm : Tm} {hp : Hp} {a : Act} {w : World} {ρ : Rho} (hT : TRep hp ρ w tm a) (hH : HRep hp ρ w) : ∀ {l : List ResultVar} {l' : List RRes}, ResRels P l l' → ∀ {p : Prop} {ls : List LV}, aress tm hp l' = some (p, ls) → p →
    ∃ vs : List Value, (l.mapM (resv a.tmps)).run P w = .ok vs w ∧ vs.length = ls.length ∧ ∀ (i : Nat) (lv : LV), ls[i]? = some lv → ∃ u, vs[i]? = some u ∧ LRep hp ρ w lv u := by
  intro l l' hrel
  induction hrel with
  | nil =>
    intro p ls h hp'
    simp only [aress, Option.some.injEq, Prod.mk.injEq] at h
    obtain ⟨_, rfl⟩ := h
    exact ⟨[], rfl, rfl, by simp⟩
  | cons x y l l' hxy hr ih =>
    intro p ls h hp'
    simp only [aress] at h
    split at h
    · rename_i r1 p' ls' h1 h2
      simp only [Option.some.injEq, Prod.mk.injEq] at h
      obtain ⟨rfl, rfl⟩ := h
      obtain ⟨vs, k1, k2, k3⟩ := ih h2 hp'.2
      have key : ∃ v, (resv a.tmps x).run P w = .ok v w ∧ LRep hp ρ w r1.lv v := by
        cases hxy with
        | tmp t =>
          simp only [ares1] at h1
          split at h1
          · rename_i v hv
            simp only [Option.some.injEq] at h1
            subst h1
            exact ⟨_, rfl, hT t v hv⟩
          · cases h1
        | cell t ty d i hd hi h0 =>
          simp only [ares1] at h1
          split at h1
          · rename_i v hv
            obtain ⟨ad, u, k4, k5, k6, k7⟩ := load_var P ty d i hd hi h0 hH h1 hp'.1 (hT t v hv)
            refine ⟨u, ?_, k6⟩
            simp [resv, k4, asAddr, k5]
          · cases h1
      obtain ⟨v, q1, q2⟩ := key
      refine ⟨v :: vs, ?_, by simp [k2], fun i lv hi => ?_⟩
      · rw [List.mapM_cons]
        simp only [Sem.run_bind]
        rw [q1]
        simp only [Result.andThen_ok]
        rw [k1]
        rfl
      · rcases i with _ | i
        · simp at hi
          subst hi
          exact ⟨v, rfl, q2⟩
        · exact k3 i lv (by simpa using hi)
    · cases h

theorem results_run {P : Program} {fn : Func} {tm : Tm} {hp : Hp} {a : Act} {w : World} {ρ : Rho} (hT : TRep hp ρ w tm a) (hH : HRep hp ρ w) {rs : List RRes} (hrel : ResRels P fn.results.toList rs) {p : Prop} {lv : LV} (h : ares tm hp rs = some (p, lv)) (hp' : p) :
    ∃ v, (results fn a.tmps).run P w = .ok v w ∧ LRep hp ρ w lv v := by
  have hm : ∀ vs : List Value, (fn.results.toList.mapM (resv a.tmps)).run P w = .ok vs w →
      (results fn a.tmps).run P w = .ok (if h : vs.toArray.size = 1 then vs.toArray[0] else .tuple vs.toArray) w := by
    intro vs hvs
    rw [results_eq]
    have e : fn.results = fn.results.toList.toArray := by simp
    rw [e, List.mapM_toArray]
    simp only [Sem.run_bind, Sem.run_map]
    rw [hvs]
    rfl
  unfold ares at h
  split at h
  · rename_i p' x hs
    simp only [Option.some.injEq, Prod.mk.injEq] at h
    obtain ⟨rfl, rfl⟩ := h
    obtain ⟨vs, k1, k2, k3⟩ := results_sound hT hH hrel hs hp'
    match vs, k2 with
    | [v], _ =>
      obtain ⟨u, hu, hr⟩ := k3 0 x rfl
      simp at hu
      subst hu
      exact ⟨v, by rw [hm _ k1]; simp, hr⟩
  · rename_i p' l hne hs
    simp only [Option.some.injEq, Prod.mk.injEq] at h
    obtain ⟨rfl, rfl⟩ := h
    obtain ⟨vs, k1, k2, k3⟩ := results_sound hT hH hrel hs hp'
    have hl : ¬ vs.toArray.size = 1 := by
      intro h1
      simp only [List.size_toArray] at h1
      rw [k2] at h1
      match l, h1 with
      | [x], _ => exact hne x rfl
    refine ⟨.tuple vs.toArray, by rw [hm _ k1, dif_neg hl], ?_⟩
    refine .tup l vs.toArray (fun i => (vs[i]?).getD undef) (by simp [k2]) (fun i x hx => ?_) (fun i x hx => ?_)
    · obtain ⟨u, hu, _⟩ := k3 i x hx
      simp [hu]
    · obtain ⟨u, hu, hr⟩ := k3 i x hx
      simpa [hu] using hr
  · cases h

theorem fin_sound {P : Program} {E : Ent P} {Q : AE → Hp → Prop} {lv : LV} {hp : Hp} (h : Fin E.H.nxt Q lv hp) {w : World} {ρ : Rho} (hI : HInv E hp ρ w) {v : Value} (hv : LRep hp ρ w lv v) :
    ∃ H' ρ' ae, Q ae H' ∧ ERep H' ρ' w ae (.returned v) ∧ HRep H' ρ' w ∧ Ext E.H E.ρ E.w H' ρ' w := by
  obtain ⟨fz, szs, ms, lv0, hp0, hsz, hs, hc, hid, hl, hcv, hq⟩ := h
  obtain ⟨ρ1, hH1, e1⟩ := prep_rep fz szs hsz hI.rep
  refine ⟨hp0, ρ1.into ms (hp.prep fz szs) hp0, .ret lv0, hq, ?_, hrep_into hs hc hH1, into_ext hs ⟨hH1, hI.ext.trans e1⟩ hid⟩
  have hv1 := hv.keep e1
  show LRep _ _ _ lv0 v
  cases hl with
  | lv _ hl =>
    have hcv' : CvLV (hp.prep fz szs) lv (lv0.ren (ridx ms (hp.prep fz szs).nxt)) := by
      generalize hren : lv0.ren (ridx ms (hp.prep fz szs).nxt) = q at hcv
      cases hcv with
      | lv hcv => exact hcv
      | tup hcv =>
        exfalso
        cases hl <;> simp [LV.ren] at hren
    exact lrep_into hs hl (hcv'.rep hH1 hv1)
  | tup l hl =>
    have hcv' : ∃ l0, lv = .tup l0 ∧ CvLVs (hp.prep fz szs) l0 (lrens (ridx ms (hp.prep fz szs).nxt) l) := by
      generalize hren : (LV.tup l).ren (ridx ms (hp.prep fz szs).nxt) = q at hcv
      simp only [LV.ren] at hren
      cases hcv with
      | lv hcv =>
        subst hren
        cases hcv with
        | refl => exact ⟨_, rfl, by
            have : ∀ l : List LV, CvLVs (hp.prep fz szs) l l := by
              intro l
              induction l with
              | nil => exact .nil
              | cons x r ih => exact .cons (.refl x) ih
            exact this _⟩
      | tup hcv =>
        simp only [LV.tup.injEq] at hren
        subst hren
        exact ⟨_, rfl, hcv⟩
    obtain ⟨l0, rfl, hcv2⟩ := hcv'
    cases hv1 with
    | tup _ vs cv h1 h2 h3 =>
      have hlen := hcv2.length
      rw [lrens_length] at hlen
      refine .tup l vs cv (by rw [h1, hlen]) (fun i x hx => ?_) (fun i x hx => ?_)
      · obtain ⟨y, hy, _⟩ := hcv2.get i (x.ren (ridx ms (hp.prep fz szs).nxt)) (by rw [lrens_get, hx]; rfl)
        exact h2 i y hy
      · obtain ⟨y, hy, hcc⟩ := hcv2.get i (x.ren (ridx ms (hp.prep fz szs).nxt)) (by rw [lrens_get, hx]; rfl)
        exact lrep_into hs (hl x (List.mem_of_getElem? hx)) (hcc.rep hH1 (h3 i y hy))

theorem finP_sound {P : Program} {E : Ent P} {Q : AE → Hp → Prop} {v : Value} {hp : Hp} (h : FinP E.H.nxt Q v hp) {w : World} {ρ : Rho} (hI : HInv E hp ρ w) :
    ∃ H' ρ' ae, Q ae H' ∧ ERep H' ρ' w ae (.panicked [{ v, recovered := false }]) ∧ HRep H' ρ' w ∧ Ext E.H E.ρ E.w H' ρ' w := by
  obtain ⟨fz, szs, ms, hp0, hsz, hs, hc, hid, hq⟩ := h
  obtain ⟨ρ1, hH1, e1⟩ := prep_rep fz szs hsz hI.rep
  exact ⟨hp0, ρ1.into ms (hp.prep fz szs) hp0, .pan v, hq, rfl, hrep_into hs hc hH1, into_ext hs ⟨hH1, hI.ext.trans e1⟩ hid⟩

/-- A FUNCTION'S CONTRACT, OUT OF ITS BODY. -/
theorem calls_of_awp {P : Program} {f : FuncId} {fn : Func} {c : Code} {rc : RC} {rs : List RRes} (hf : P.funcs[f]? = some fn) (hb : fn.body = some c) (hc : CRel P fn.ntmps 0 c rc) (hrs : ResRels P fn.results.toList rs) {args : List LV} {H0 : Hp} {Q : AE → Hp → Prop} (hn : args.length ≤ fn.ntmps)
    (h : awp P H0.nxt rc (body P rs H0.nxt Q) (initTm 0 args) H0) : CallsA P f args H0 Q := by
  intro ρ w vs hG hH hvs hargs
  refine calls_of_wp hf hb ?_
  have hI : SInv ⟨H0, ρ, w, hH, hG, [], 0, #[]⟩ fn.ntmps (initTm 0 args) H0 { tmps := vs ++ Array.replicate (fn.ntmps - vs.size) undef, defers := [] } w ρ := by
    refine ⟨fun t lv hg => ?_, ⟨hH, Ext.refl _ _ _⟩, by simp; omega, rfl, fun t ht => absurd ht (Nat.not_lt_zero _)⟩
    obtain ⟨_, h2⟩ := initTm_get 0 args t lv hg
    obtain ⟨u, hu, hr⟩ := hargs t lv (by simpa using h2)
    have hlt := (Array.getElem?_eq_some_iff.1 hu).1
    rw [Array.getD_eq_getD_getElem?, Array.getElem?_append_left hlt, hu]
    exact hr
  refine wp_mono (awp_sound (E := ⟨H0, ρ, w, hH, hG, [], 0, #[]⟩) hc _ _ _ ρ _ _ h hI) fun e a w' hq => ?_
  have fin : ∀ tm hp ρ', body P rs H0.nxt Q .ret tm hp → SInv ⟨H0, ρ, w, hH, hG, [], 0, #[]⟩ fn.ntmps tm hp a w' ρ' → a.defers = [] ∧ ∃ v, (results fn a.tmps).run P w' = .ok v w' ∧ ∃ H' ρ'' ae, Q ae H' ∧ ERep H' ρ'' w' ae (.returned v) ∧ HRep H' ρ'' w' ∧ Ext H0 ρ w H' ρ'' w' := by
    intro tm hp ρ' hbd hS
    simp only [body] at hbd
    split at hbd
    · rename_i p lv har
      obtain ⟨v, h1, h2⟩ := results_run hS.tr hS.h.rep hrs har hbd.1
      exact ⟨hS.defers, v, h1, fin_sound (E := ⟨H0, ρ, w, hH, hG, [], 0, #[]⟩) hbd.2 hS.h h2⟩
    · exact hbd.elim
  cases e with
  | normal => obtain ⟨tm, hp, ρ', h1, h2⟩ := hq; exact fin tm hp ρ' h1 h2
  | ret => obtain ⟨tm, hp, ρ', h1, h2⟩ := hq; exact fin tm hp ρ' h1 h2
  | panic chain =>
    obtain ⟨v, hp, ρ', h1, rfl, h3, h4, _⟩ := hq
    exact ⟨h4, finP_sound (E := ⟨H0, ρ, w, hH, hG, [], 0, #[]⟩) h1 h3⟩
  | exit id => obtain ⟨tm, hp, ρ', h1, h2⟩ := hq; exact h1.elim
  | goto => exact hq.elim
  | outgrown => exact hq.elim
end Go.Av

namespace Go.Av
open Go.RowKit

/-! ### what the types say is put in -/
def allOne (l : List Value) : Bool := l.all fun v => v.oneCell'

def rsvParts (places : List (Nat × Nat)) : List (Nat × Operand) → Option (List (Nat × Nat × Od))
  | [] => some []
  | (i, x) :: r => match places[i]?, rsvOd x, rsvParts places r with
    | some (off, sz), some y, some ys => if 0 < sz then some ((off, sz, y) :: ys) else none
    | _, _, _ => none

def rsvSeq (n : Nat) : List (Nat × Operand) → Option (List Od)
  | [] => some []
  | (i, x) :: r => match rsvOd x, rsvSeq (n + 1) r with
    | some y, some ys => if i = n then some (y :: ys) else none
    | _, _ => none

def placesOf (P : Program) : List Field → Option (List (Nat × Nat))
  | [] => some []
  | f :: r => match P.info? f.type, placesOf P r with
    | some i, some l => some ((f.offset, i.size) :: l)
    | _, _ => none

def placesFit (n : Nat) (l : List (Nat × Nat)) : Bool := l.all fun p => decide (p.1 + p.2 ≤ n)

def isIface : TypeDesc → Bool
  | .interface _ => true
  | _ => false

def rsvBuiltin (P : Program) (b : Builtin) (args : List Operand) (ts : List TypeId) : Option RK :=
  match b, args, ts with
  | .len, [x], [t] => match P.underlying t, rsvOd x with
    | some (.slice _), some y => some (.len y)
    | some .string, some y => some (.slen y)
    | _, _ => none
  | .cap, [x], [t] => match P.underlying t, rsvOd x with
    | some (.slice _), some y => some (.capn y)
    | _, _ => none
  | .min, [x, y], _ => match rsvOd x, rsvOd y with
    | some x', some y' => some (.min x' y')
    | _, _ => none
  | .max, [x, y], _ => match rsvOd x, rsvOd y with
    | some x', some y' => some (.max x' y')
    | _, _ => none
  | .append, [x, y], [t, u] => match P.underlying t, rsvOd x, rsvOd y with
    | some (.slice e), some x', some y' => match P.info? e with
      | some i => match i.zero with
        | some z => if t = u ∧ 0 < i.size ∧ z.cells.size = i.size then some (.append i.size i.bytes z.cells.toList x' y')
          else match P.underlying u with
            | some (.int _) => if 0 < i.size ∧ z.cells.size = i.size ∧ allOne z.cells.toList = true then some (.appn i.size i.bytes z.cells.toList x' y') else none
            | _ => none
        | none => none
      | none => none
    | _, _, _ => none
  | .clear, [x], [t] => match P.underlying t, rsvOd x with
    | some (.slice e), some y => match P.info? e with
      | some i => match i.zero with
        | some z => if 0 < i.size ∧ z.cells.size = i.size ∧ allOne z.cells.toList = true then some (.clear i.size z.cells.toList y) else none
        | none => none
      | none => none
    | _, _ => none
  | _, _, _ => none

def isNilC (ifc : Bool) : Operand → Bool
  | .const .nilIface => ifc
  | .const (.slice none 0 0) => !ifc
  | _ => false
theorem isNilC_eq {ifc : Bool} {y : Operand} (h : isNilC ifc y = true) : y = .const (if ifc then .nilIface else .slice none 0 0) := by
  unfold isNilC at h
  split at h
  · subst h; rfl
  · simp at h; subst h; rfl
  · cases h
def rsvNil (ifc : Bool) (op : BinOp) (x : Od) : Option RK := match op with
  | .eql => some (.isnil ifc false x)
  | .neq => some (.isnil ifc true x)
  | _ => none

def rsvK (P : Program) (imm : Bool) (op : Op) : Option RK :=
  match op with
  | .move x | .assign x => (rsvOd x).map .mov
  | .pick c a b => match rsvOd c, rsvOd a, rsvOd b with
    | some c', some a', some b' => some (.pick c' a' b')
    | _, _, _ => none
  | .alloc t => match P.info? t with
    | some i => match i.zero with
      | some z => if allOne z.cells.toList = true ∧ 0 < z.cells.toList.length then some (.alloc z.cells.toList) else none
      | none => none
    | none => none
  | .box t x => match P.info? t, rsvOd x with
    | some i, some y => if 0 < i.size then some (.box imm i.size y) else none
    | _, _ => none
  | .build t ps => match P.underlying t, P.info? t with
    | some (.struct fs), some i => match i.zero, placesOf P fs.toList with
      | some z, some pl => match rsvParts pl ps.toList with
        | some ps' => if allOne z.cells.toList = true ∧ placesFit z.cells.toList.length pl = true then some (.build z.cells.toList ps') else none
        | none => none
      | _, _ => none
    | _, _ => none
  | .buildSlice t n ps => match P.underlying t with
    | some (.slice e) => match P.info? e with
      | some i => match i.zero, rsvSeq 0 ps.toList with
        | some z, some xs => if 0 < i.size ∧ z.cells.size = i.size ∧ xs.length = n ∧ n * i.size ≤ 16777216 then some (.bslice imm i.size xs) else none
        | _, _ => none
      | none => none
    | _ => none
  | .load t x => match P.underlying t, P.info? t, rsvOd x with
    | some d, some i, some y => if 0 < i.size then some (.load (aggD d) i.size y) else none
    | _, _, _ => none
  | .store t x z => match P.info? t, rsvOd x, rsvOd z with
    | some i, some x', some z' => if 0 < i.size then some (.store i.size x' z') else none
    | _, _, _ => none
  | .nilCheck x => (rsvOd x).map .nilc
  | .binOp op t x y _ => match P.underlying t, rsvOd x, rsvOd y with
    | some .bool, some x', some y' => some (.binb op x' y')
    | some (.struct _), some x', some y' => if P.stoodInHeld t = false ∧ P.eqGuardType P.depth t = false then match op, flatKs P (P.fieldsOf t).toList 0 with
        | .eql, some ks => some (.bins false ks x' y')
        | .neq, some ks => some (.bins true ks x' y')
        | _, _ => none
      else none
    | some (.slice _), some x', some _ => if isNilC false y = true then rsvNil false op x' else none
    | some (.interface _), some x', some _ => if isNilC true y = true then rsvNil true op x' else none
    | some _, some x', some y' => some (.bin op x' y')
    | _, _, _ => none
  | .unOp .not _ x => (rsvOd x).map .not
  | .unOp .neg _ x => (rsvOd x).map .neg
  | .convert s d x => match P.underlying s, P.underlying d, rsvOd x with
    | some _, some (.int k), some y => some (.iconv k y)
    | some (.int _), some .string, some y => some (.i2s y)
    | some .string, some .string, some y => some (.s2s y)
    | some (.slice e), some .string, some y => match P.underlying e with
      | some (.int .u8) => some (.b2s y)
      | _ => none
    | _, _, _ => none
  | .makeInterface t x => match P.underlying t, rsvOd x with
    | some d, some y => if isIface d = false then some (.mkif t y) else none
    | _, _ => none
  | .makeFunc f first caps => if first.toList.length = 0 then (rsvOds caps.toList).map (.mkfn f) else none
  | .slice t x lo hi mx => match mx with
    | none => match P.underlying t, rsvOd x, rsvO lo, rsvO hi with
      | some .string, some y, some lo', some hi' => some (.sslice y lo' hi')
      | some (.slice e), some y, some lo', some hi' => match P.info? e with
        | some i => some (.slice i.size y lo' hi')
        | none => none
      | _, _, _, _ => none
    | some _ => none
  | .fieldAddr s x k => match P.underlying s, rsvOd x with
    | some (.struct fs), some y => match fs[k]? with
      | some f => match P.info? f.type with
        | some fi => if fi.size = 0 then none else some (.faddr f.offset y)
        | none => none
      | none => none
    | _, _ => none
  | .indexAddr t x i => match P.underlying t, rsvOd x, rsvOd i with
    | some (.slice e), some x', some i' => match P.info? e with
      | some f => some (.iaddr f.size x' i')
      | none => none
    | _, _, _ => none
  | .index t x i => match P.underlying t, rsvOd x, rsvOd i with
    | some .string, some x', some i' => some (.sindex x' i')
    | _, _, _ => none
  | .range t x => match P.underlying t, rsvOd x with
    | some .string, some y => some (.srange y)
    | _, _ => none
  | .next x isS => if isS then (rsvOd x).map .snext else none
  | .extract x i => (rsvOd x).map fun y => .extract y i
  | .panic x => (rsvOd x).map .panic
  | .call c => match c.callee with
    | .builtin b => rsvBuiltin P b c.args.toList c.argTypes.toList
    | .value (.func f) => match rsvOds c.args.toList, P.funcs[f]? with
      | some args, some fn => if fn.body.isNone = false ∧ (fn.name == "runtime.NumGoroutine") = false then some (.call f args) else none
      | _, _ => none
    | .value x => match rsvOd x, rsvOds c.args.toList with
      | some y, some args => some (.callv y args)
      | _, _ => none
    | .invoke _ _ => none
  | _ => none

theorem arr1 {α : Type} {a : Array α} {x : α} (h : a.toList = [x]) : a = #[x] := by
  apply Array.ext'; simpa using h
theorem arr2 {α : Type} {a : Array α} {x y : α} (h : a.toList = [x, y]) : a = #[x, y] := by
  apply Array.ext'; simpa using h

theorem rparts_ok {pl : List (Nat × Nat)} : ∀ {ps : List (Nat × Operand)} {ps' : List (Nat × Nat × Od)}, rsvParts pl ps = some ps' → RParts (fun k => pl[k]?) ps ps'
  | [], ps', h => by simp only [rsvParts, Option.some.injEq] at h; subst h; exact .nil
  | (i, x) :: r, ps', h => by
    simp only [rsvParts] at h
    split at h
    · rename_i off sz y ys h1 h2 h3
      split at h
      · rename_i h0
        simp only [Option.some.injEq] at h
        subst h
        exact .cons i x off sz y r ys h1 h0 h2 (rparts_ok h3)
      · cases h
    · cases h

theorem rseq_ok : ∀ {n : Nat} {ps : List (Nat × Operand)} {xs : List Od}, rsvSeq n ps = some xs → RSeq n ps xs
  | n, [], xs, h => by simp only [rsvSeq, Option.some.injEq] at h; subst h; exact .nil n
  | n, (i, x) :: r, xs, h => by
    simp only [rsvSeq] at h
    split at h
    · rename_i y ys h1 h2
      split at h
      · rename_i e
        subst e
        simp only [Option.some.injEq] at h
        subst h
        exact .cons _ x y r ys h1 (rseq_ok h2)
      · cases h
    · cases h

theorem places_ok {P : Program} : ∀ {fs : List Field} {pl : List (Nat × Nat)}, placesOf P fs = some pl →
    ∃ f : Field → Nat, pl = fs.map (fun x => (x.offset, f x)) ∧ ∀ x ∈ fs, (P.info? x.type).map (·.size) = some (f x) := by
  intro fs pl h
  refine ⟨fun x => ((P.info? x.type).map (·.size)).getD 0, ?_⟩
  induction fs generalizing pl with
  | nil => simp only [placesOf, Option.some.injEq] at h; subst h; simp
  | cons f r ih =>
    simp only [placesOf] at h
    split at h
    · rename_i i l h1 h2
      simp only [Option.some.injEq] at h
      subst h
      obtain ⟨e1, e2⟩ := ih h2
      refine ⟨by rw [List.map_cons, ← e1]; simp [h1], fun x hx => ?_⟩
      simp only [List.mem_cons] at hx
      rcases hx with rfl | hx
      · simp [h1]
      · exact e2 x hx
    · cases h

theorem allOne_ok {l : List Value} (h : allOne l = true) : ∀ v ∈ l, v.oneCell' = true := by
  intro v hv
  exact List.all_eq_true.1 h v hv

theorem rsvBuiltin_ok {P : Program} {b : Builtin} {args : Array Operand} {ts : Array TypeId} {rk : RK} (h : rsvBuiltin P b args.toList ts.toList = some rk) :
    rk.plain = true ∧ Sound P (.call { callee := .builtin b, args := args, argTypes := ts }) rk := by
  generalize hal : args.toList = al at h
  generalize htl : ts.toList = tl at h
  unfold rsvBuiltin at h
  split at h
  · have e1 := arr1 hal
    have e2 := arr1 htl
    subst e1; subst e2
    split at h
    · rename_i h1 h2
      simp only [Option.some.injEq] at h; subst h
      exact ⟨rfl, sound_len P _ _ h1 _ _ h2⟩
    · rename_i h1 h2
      simp only [Option.some.injEq] at h; subst h
      exact ⟨rfl, sound_slen P _ h1 _ _ h2⟩
    · cases h
  · have e1 := arr1 hal
    have e2 := arr1 htl
    subst e1; subst e2
    split at h
    · rename_i h1 h2
      simp only [Option.some.injEq] at h; subst h
      exact ⟨rfl, sound_capn P _ _ h1 _ _ h2⟩
    · cases h
  · have e1 := arr2 hal
    subst e1
    split at h
    · rename_i h1 h2
      simp only [Option.some.injEq] at h; subst h
      exact ⟨rfl, sound_min P _ _ _ _ _ h1 h2⟩
    · cases h
  · have e1 := arr2 hal
    subst e1
    split at h
    · rename_i h1 h2
      simp only [Option.some.injEq] at h; subst h
      exact ⟨rfl, sound_max P _ _ _ _ _ h1 h2⟩
    · cases h
  · have e1 := arr2 hal
    have e2 := arr2 htl
    subst e1; subst e2
    split at h
    · rename_i h1 h2 h3
      split at h
      · rename_i i hi
        split at h
        · rename_i z hz
          split at h
          · rename_i hc
            obtain ⟨rfl, c1, c2⟩ := hc
            simp only [Option.some.injEq] at h; subst h
            exact ⟨rfl, sound_append P _ _ i z h1 hi hz c1 c2 _ _ _ _ h2 h3⟩
          · split at h
            · rename_i hu
              split at h
              · rename_i hc
                obtain ⟨c1, c2, c3⟩ := hc
                simp only [Option.some.injEq] at h; subst h
                exact ⟨rfl, sound_appn P _ _ _ _ i z h1 hu hi hz c1 c2 c3 _ _ _ _ h2 h3⟩
              · cases h
            · cases h
        · cases h
      · cases h
    · cases h
  · have e1 := arr1 hal
    have e2 := arr1 htl
    subst e1; subst e2
    split at h
    · rename_i h1 h2
      split at h
      · rename_i i hi
        split at h
        · rename_i z hz
          split at h
          · rename_i hc
            obtain ⟨c1, c2, c3⟩ := hc
            simp only [Option.some.injEq] at h; subst h
            exact ⟨rfl, sound_clear P _ _ i z h1 hi hz c1 c2 c3 _ _ h2⟩
          · cases h
        · cases h
      · cases h
    · cases h
  · cases h

theorem underlying_fields {P : Program} {t : TypeId} {fs : Array Field} (h : P.underlying t = some (.struct fs)) : P.underlying t = some (.struct (P.fieldsOf t)) := by rw [Program.fieldsOf, h]

theorem rsvK_ok {P : Program} {imm : Bool} {op : Op} {rk : RK} (h : rsvK P imm op = some rk) : KRel P op rk := by
  unfold rsvK at h
  split at h
  · rename_i x
    cases hq : rsvOd x with
    | none => simp [hq] at h
    | some y => simp only [hq, Option.map_some, Option.some.injEq] at h; subst h; exact .plain _ _ rfl (sound_mov P x y hq)
  · rename_i x
    cases hq : rsvOd x with
    | none => simp [hq] at h
    | some y => simp only [hq, Option.map_some, Option.some.injEq] at h; subst h; exact .plain _ _ rfl (sound_assign P x y hq)
  · split at h
    · rename_i h1 h2 h3
      simp only [Option.some.injEq] at h; subst h
      exact .plain _ _ rfl (sound_pick P _ _ _ _ _ _ h1 h2 h3)
    · cases h
  · split at h
    · rename_i i hi
      split at h
      · rename_i z hz
        split at h
        · rename_i hc
          simp only [Option.some.injEq] at h; subst h
          exact .plain _ _ rfl (sound_alloc P _ i z hi hz (allOne_ok hc.1) hc.2)
        · cases h
      · cases h
    · cases h
  · split at h
    · rename_i i y hi hy
      split at h
      · rename_i h0
        simp only [Option.some.injEq] at h; subst h
        exact .plain _ _ rfl (sound_box P imm _ _ _ hy _ h0)
      · cases h
    · cases h
  · split at h
    · rename_i fs i ht hi
      split at h
      · rename_i z pl hz hpl
        split at h
        · rename_i ps' hps
          split at h
          · rename_i hc
            simp only [Option.some.injEq] at h; subst h
            obtain ⟨f, e1, e2⟩ := places_ok hpl
            subst e1
            refine .plain _ _ rfl (sound_build P _ i z fs f ht hi hz (allOne_ok hc.1) e2 (fun k off sz hk => ?_) _ _ (rparts_ok hps))
            have := List.all_eq_true.1 hc.2 (off, sz) (List.mem_of_getElem? hk)
            simpa using this
          · cases h
        · cases h
      · cases h
    · cases h
  · split at h
    · rename_i e ht
      split at h
      · rename_i i hi
        split at h
        · rename_i z xs hz hxs
          split at h
          · rename_i hc
            simp only [Option.some.injEq] at h; subst h
            exact .plain _ _ rfl (sound_bslice P imm _ e i z ht hi hz hc.1 hc.2.1 _ _ xs (rseq_ok hxs) hc.2.2.1 hc.2.2.2)
          · cases h
        · cases h
      · cases h
    · cases h
  · split at h
    · rename_i d i y hd hi hy
      split at h
      · rename_i h0
        simp only [Option.some.injEq] at h; subst h
        exact .plain _ _ rfl (sound_load P _ d i hd hi _ _ hy h0)
      · cases h
    · cases h
  · split at h
    · rename_i i x' z' hi hx hz
      split at h
      · rename_i h0
        simp only [Option.some.injEq] at h; subst h
        exact .plain _ _ rfl (sound_store P _ i hi _ _ _ _ hx hz h0)
      · cases h
    · cases h
  · rename_i x
    cases hq : rsvOd x with
    | none => simp [hq] at h
    | some y => simp only [hq, Option.map_some, Option.some.injEq] at h; subst h; exact .plain _ _ rfl (sound_nilc P x y hq)
  · split at h
    · rename_i h1 h2 h3
      simp only [Option.some.injEq] at h; subst h
      exact .plain _ _ rfl (sound_binb P _ _ h1 _ _ _ _ _ h2 h3)
    · rename_i h1 h2 h3
      split at h
      · rename_i hc
        have hfs := underlying_fields h1
        split at h
        · rename_i ks hk
          simp only [Option.some.injEq] at h; subst h
          exact .plain _ _ rfl (sound_bins P false _ _ _ _ _ _ h2 h3 ks hfs hc.1 hc.2 hk)
        · rename_i ks hk
          simp only [Option.some.injEq] at h; subst h
          exact .plain _ _ rfl (sound_bins P true _ _ _ _ _ _ h2 h3 ks hfs hc.1 hc.2 hk)
        · cases h
      · cases h
    · rename_i h1 h2 h3
      split at h
      · rename_i hn
        have e := isNilC_eq hn
        subst e
        unfold rsvNil at h
        split at h
        · simp only [Option.some.injEq] at h; subst h
          exact .plain _ _ rfl (sound_isnil P false false _ ⟨_, h1⟩ _ _ _ h2)
        · simp only [Option.some.injEq] at h; subst h
          exact .plain _ _ rfl (sound_isnil P false true _ ⟨_, h1⟩ _ _ _ h2)
        · cases h
      · cases h
    · rename_i h1 h2 h3
      split at h
      · rename_i hn
        have e := isNilC_eq hn
        subst e
        unfold rsvNil at h
        split at h
        · simp only [Option.some.injEq] at h; subst h
          exact .plain _ _ rfl (sound_isnil P true false _ ⟨_, h1⟩ _ _ _ h2)
        · simp only [Option.some.injEq] at h; subst h
          exact .plain _ _ rfl (sound_isnil P true true _ ⟨_, h1⟩ _ _ _ h2)
        · cases h
      · cases h
    · rename_i h1 h2 h3 _ _ _ _
      simp only [Option.some.injEq] at h; subst h
      exact .plain _ _ rfl (sound_bin P _ _ _ _ _ _ _ (by assumption) (by assumption))
    · cases h
  · rename_i x
    cases hq : rsvOd x with
    | none => simp [hq] at h
    | some y => simp only [hq, Option.map_some, Option.some.injEq] at h; subst h; exact .plain _ _ rfl (sound_not P _ x y hq)
  · rename_i x
    cases hq : rsvOd x with
    | none => simp [hq] at h
    | some y => simp only [hq, Option.map_some, Option.some.injEq] at h; subst h; exact .plain _ _ rfl (sound_neg P _ x y hq)
  · split at h
    · rename_i h1 h2 h3
      simp only [Option.some.injEq] at h; subst h
      exact .plain _ _ rfl (sound_iconv P _ _ _ _ h1 h2 _ _ h3)
    · rename_i h1 h2 h3
      simp only [Option.some.injEq] at h; subst h
      exact .plain _ _ rfl (sound_i2s P _ _ _ h1 h2 _ _ h3)
    · rename_i h1 h2 h3
      simp only [Option.some.injEq] at h; subst h
      exact .plain _ _ rfl (sound_s2s P _ _ _ h1 h2 _ _ h3)
    · rename_i h1 h2 h3
      split at h
      · rename_i he
        simp only [Option.some.injEq] at h; subst h
        exact .plain _ _ rfl (sound_b2s P _ _ _ h1 he h2 _ _ h3)
      · cases h
    · cases h
  · split at h
    · rename_i d y hd hy
      split at h
      · rename_i hi
        simp only [Option.some.injEq] at h; subst h
        exact .plain _ _ rfl (sound_mkif P _ d hd (fun ms e => by subst e; simp [isIface] at hi) _ _ hy)
      · cases h
    · cases h
  · rename_i f first caps
    split at h
    · rename_i h0
      have e : first = #[] := by apply Array.ext'; simpa using h0
      subst e
      cases hq : rsvOds caps.toList with
      | none => simp [hq] at h
      | some ys => simp only [hq, Option.map_some, Option.some.injEq] at h; subst h; exact .plain _ _ rfl (sound_mkfn P f caps ys hq)
    · cases h
  · split at h
    · split at h
      · rename_i h1 h2 h3 h4
        simp only [Option.some.injEq] at h; subst h
        exact .plain _ _ rfl (sound_sslice P _ h1 _ _ h2 _ _ _ _ h3 h4)
      · rename_i h1 h2 h3 h4
        split at h
        · rename_i i hi
          simp only [Option.some.injEq] at h; subst h
          exact .plain _ _ rfl (sound_slice P _ _ i h1 hi _ _ h2 _ _ _ _ h3 h4)
        · cases h
      · cases h
    · cases h
  · split at h
    · rename_i fs y hs hy
      split at h
      · rename_i f hf
        split at h
        · rename_i fi hfi
          split at h
          · cases h
          · rename_i h0
            simp only [Option.some.injEq] at h; subst h
            exact .plain _ _ rfl (sound_faddr P _ fs hs _ f hf fi hfi h0 _ _ hy)
        · cases h
      · cases h
    · cases h
  · split at h
    · rename_i e x' i' h1 h2 h3
      split at h
      · rename_i i hi
        simp only [Option.some.injEq] at h; subst h
        exact .plain _ _ rfl (sound_iaddr P _ e i h1 hi _ _ _ _ h2 h3)
      · cases h
    · cases h
  · split at h
    · rename_i h1 h2 h3
      simp only [Option.some.injEq] at h; subst h
      exact .plain _ _ rfl (sound_sindex P _ h1 _ _ _ _ h2 h3)
    · cases h
  · split at h
    · rename_i h1 h2
      simp only [Option.some.injEq] at h; subst h
      exact .plain _ _ rfl (sound_srange P _ h1 _ _ h2)
    · cases h
  · rename_i x isS
    split at h
    · rename_i hS
      subst hS
      cases hq : rsvOd x with
      | none => simp [hq] at h
      | some y => simp only [hq, Option.map_some, Option.some.injEq] at h; subst h; exact .plain _ _ rfl (sound_snext P x y hq)
    · cases h
  · rename_i x i
    cases hq : rsvOd x with
    | none => simp [hq] at h
    | some y => simp only [hq, Option.map_some, Option.some.injEq] at h; subst h; exact .plain _ _ rfl (sound_extract P x i y hq)
  · rename_i x
    cases hq : rsvOd x with
    | none => simp [hq] at h
    | some y => simp only [hq, Option.map_some, Option.some.injEq] at h; subst h; exact .panic x y hq
  · rename_i c
    obtain ⟨callee, args, ts⟩ := c
    simp only at h
    split at h
    · obtain ⟨h1, h2⟩ := rsvBuiltin_ok h
      exact .plain _ _ h1 h2
    · split at h
      · rename_i args' fn ha hf
        split at h
        · rename_i hc
          simp only [Option.some.injEq] at h; subst h
          exact .call _ _ _ _ fn ha hf hc.1 hc.2
        · cases h
      · cases h
    · split at h
      · rename_i h1 h2
        simp only [Option.some.injEq] at h; subst h
        exact .callv _ _ _ _ _ h1 h2
      · cases h
    · cases h
  · cases h

def dstOk (n lo : Nat) : Option Nat → Bool
  | some d => decide (lo ≤ d) && decide (d < n)
  | none => true

def rsvO1 (P : Program) (n lo : Nat) (imm : Nat → Bool) (ops : Array Oper) (o : Oper) : Option ROp :=
  match rsvK P (imm (o.dst.getD 0)) o.op with
  | some k =>
    if dstOk n lo o.dst = true then
      match o.guard with
      | none => some ⟨o.dst, k, none⟩
      | some (j, want) => match ops[j]? with
        | some oj => match oj.dst with
          | some t => some ⟨o.dst, k, some (t, want)⟩
          | none => none
        | none => none
    else none
  | none => none

def rsvL (P : Program) (n lo : Nat) (imm : Nat → Bool) (ops : Array Oper) : List Nat → Option (List ROp)
  | [] => some []
  | i :: r => match ops[i]? with
    | some o => match rsvO1 P n lo imm ops o, rsvL P n lo imm ops r with
      | some x, some xs => some (x :: xs)
      | _, _ => none
    | none => none

theorem rsvO1_ok {P : Program} {n lo : Nat} {imm : Nat → Bool} {ops : Array Oper} {o : Oper} {r : ROp} (h : rsvO1 P n lo imm ops o = some r) : ORel P n lo ops o r := by
  unfold rsvO1 at h
  split at h
  · rename_i k hk
    split at h
    · rename_i hd
      have hlt : ∀ d, o.dst = some d → d < n := by
        intro d e
        rw [e] at hd
        simp only [dstOk, Bool.and_eq_true, decide_eq_true_eq] at hd
        exact hd.2
      have hge : ∀ d, o.dst = some d → lo ≤ d := by
        intro d e
        rw [e] at hd
        simp only [dstOk, Bool.and_eq_true, decide_eq_true_eq] at hd
        exact hd.1
      split at h
      · rename_i hg
        simp only [Option.some.injEq] at h; subst h
        exact ⟨rfl, hlt, hge, by rw [hg], rsvK_ok hk⟩
      · rename_i j want hg
        split at h
        · rename_i oj hj
          split at h
          · rename_i t ht
            simp only [Option.some.injEq] at h; subst h
            exact ⟨rfl, hlt, hge, by rw [hg]; exact ⟨oj, t, hj, ht, rfl⟩, rsvK_ok hk⟩
          · cases h
        · cases h
    · cases h
  · cases h

theorem rsvL_ok {P : Program} {n lo : Nat} {imm : Nat → Bool} {ops : Array Oper} : ∀ {l : List Nat} {rl : List ROp}, rsvL P n lo imm ops l = some rl → OList P n lo ops l rl
  | [], rl, h => by simp only [rsvL, Option.some.injEq] at h; subst h; exact .nil
  | i :: l, rl, h => by
    simp only [rsvL] at h
    split at h
    · rename_i o ho
      split at h
      · rename_i x xs h1 h2
        simp only [Option.some.injEq] at h; subst h
        exact .cons i o x l xs ho (rsvO1_ok h1) (rsvL_ok h2)
      · cases h
    · cases h

/-- Calls whose slots are in the list leave the heap as it is. -/
def marked (imm : Nat → Bool) : List ROp → List (ROp × Bool)
  | [] => []
  | o :: r => (o, match o.d with
    | some d => !(imm d)
    | none => true) :: marked imm r

theorem marked_map (imm : Nat → Bool) : ∀ l, (marked imm l).map (·.1) = l
  | [] => rfl
  | o :: r => by simp [marked, marked_map imm r]

def rsvC (P : Program) (n lo : Nat) (imm : Nat → Bool) : Code → Option RC
  | .skip => some .skip
  | .region _ ops draw => match rsvL P n lo imm ops (List.range ops.size) with
    | some rl => if draw then
        if lowB ops then
          if indepB ops (marked imm rl) && rl.all (fun o => match o.d with
            | some d => !(imm (d + 100000))
            | none => true) then some (.dreg (marked imm rl)) else if gindepB ops (gmarks imm ops rl) then some (.greg (gmarks imm ops rl)) else none
        else none
      else some (.reg rl)
    | none => none
  | .seq a b => match rsvC P n lo imm a, rsvC P n lo imm b with
    | some x, some y => some (.seq x y)
    | _, _ => none
  | .cond c a b => match rsvOd c, rsvC P n lo imm a, rsvC P n lo imm b with
    | some c', some x, some y => some (.cond c' x y)
    | _, _, _ => none
  | .block id a => (rsvC P n lo imm a).map (.block id)
  | .loop a => (rsvC P n lo imm a).map .loop
  | .exit id => some (.exit id)
  | .ret => some .ret
  | _ => none

theorem rsvC_ok {P : Program} {n lo : Nat} {imm : Nat → Bool} : ∀ {c : Code} {rc : RC}, rsvC P n lo imm c = some rc → CRel P n lo c rc := by
  intro c
  induction c with
  | skip => intro rc h; simp only [rsvC, Option.some.injEq] at h; subst h; exact .skip
  | region id ops draw =>
    intro rc h
    simp only [rsvC] at h
    split at h
    · rename_i rl hq
      split at h
      · rename_i hd
        subst hd
        split at h
        · rename_i hlow
          split at h
          · rename_i hc
            simp only [Bool.and_eq_true] at hc
            simp only [Option.some.injEq] at h; subst h
            exact .dreg id ops _ (by rw [marked_map]; exact rsvL_ok hq) (lowB_ok hlow) (indepB_ok hc.1)
          · split at h
            · rename_i hc
              simp only [Option.some.injEq] at h; subst h
              exact .greg id ops _ (by rw [gmarks_map]; exact rsvL_ok hq) (lowB_ok hlow) (gindepB_ok hc)
            · cases h
        · cases h
      · rename_i hd
        have : draw = false := by simpa using hd
        subst this
        simp only [Option.some.injEq] at h; subst h
        exact .reg id ops rl (rsvL_ok hq)
    · cases h
  | seq a b iha ihb =>
    intro rc h
    simp only [rsvC] at h
    split at h
    · rename_i x y h1 h2
      simp only [Option.some.injEq] at h; subst h
      exact .seq _ _ _ _ (iha h1) (ihb h2)
    · cases h
  | cond c a b iha ihb =>
    intro rc h
    simp only [rsvC] at h
    split at h
    · rename_i c' x y h0 h1 h2
      simp only [Option.some.injEq] at h; subst h
      exact .cond _ _ _ _ _ _ h0 (iha h1) (ihb h2)
    · cases h
  | block id a iha =>
    intro rc h
    simp only [rsvC] at h
    cases hq : rsvC P n lo imm a with
    | none => simp [hq] at h
    | some x => simp only [hq, Option.map_some, Option.some.injEq] at h; subst h; exact .block id _ _ (iha hq)
  | loop a iha =>
    intro rc h
    simp only [rsvC] at h
    cases hq : rsvC P n lo imm a with
    | none => simp [hq] at h
    | some x => simp only [hq, Option.map_some, Option.some.injEq] at h; subst h; exact .loop _ _ (iha hq)
  | exit id => intro rc h; simp only [rsvC, Option.some.injEq] at h; subst h; exact .exit id
  | ret => intro rc h; simp only [rsvC, Option.some.injEq] at h; subst h; exact .ret
  | _ => intro rc h; simp [rsvC] at h

def rsvRs (P : Program) : List ResultVar → Option (List RRes)
  | [] => some []
  | x :: r => match x, rsvRs P r with
    | .tmp t, some l => some (.tmp t :: l)
    | .cell t ty, some l => match P.underlying ty, P.info? ty with
      | some d, some i => if 0 < i.size then some (.cell (aggD d) i.size t :: l) else none
      | _, _ => none
    | _, _ => none

theorem rsvRs_ok {P : Program} : ∀ {l : List ResultVar} {l' : List RRes}, rsvRs P l = some l' → ResRels P l l'
  | [], l', h => by simp only [rsvRs, Option.some.injEq] at h; subst h; exact .nil
  | x :: r, l', h => by
    simp only [rsvRs] at h
    split at h
    · rename_i t l hl
      simp only [Option.some.injEq] at h; subst h
      exact .cons _ _ _ _ (.tmp t) (rsvRs_ok hl)
    · rename_i t ty l hl
      split at h
      · rename_i d i hd hi
        split at h
        · rename_i h0
          simp only [Option.some.injEq] at h; subst h
          exact .cons _ _ _ _ (.cell t ty d i hd hi h0) (rsvRs_ok hl)
        · cases h
      · cases h
    · cases h

/-- A function, its types put in. -/
structure RF where
  n : Nat
  rs : List RRes
  body : RC

def rsvF (P : Program) (f : FuncId) (imm : Nat → Bool) : Option RF :=
  match P.funcs[f]? with
  | some fn => match fn.body with
    | some c => match rsvC P fn.ntmps 0 imm c, rsvRs P fn.results.toList with
      | some rc, some rs => some ⟨fn.ntmps, rs, rc⟩
      | _, _ => none
    | none => none
  | none => none

/-- A FUNCTION'S CONTRACT, OUT OF ITS BODY, AS IT IS PRINTED. -/
theorem calls_of_rsv {P : Program} {f : FuncId} {imm : Nat → Bool} {r : RF} (hr : rsvF P f imm = some r) {args : List LV} {H0 : Hp} {Q : AE → Hp → Prop} (hn : args.length ≤ r.n)
    (h : awp P H0.nxt r.body (body P r.rs H0.nxt Q) (initTm 0 args) H0) : CallsA P f args H0 Q := by
  unfold rsvF at hr
  split at hr
  · rename_i fn hf
    split at hr
    · rename_i c hc
      split at hr
      · rename_i rc rs h1 h2
        simp only [Option.some.injEq] at hr
        subst hr
        exact calls_of_awp hf hc (rsvC_ok h1) (rsvRs_ok h2) hn h
      · cases hr
    · cases hr
  · cases hr
end Go.Av

namespace Go.Av
open Go.RowKit

/-! ### evaluation: every continuation is a constant that lacks its last arguments, so that simp does not walk into it -/
def rbind : Option R1 → (LV → Hp → Prop) → Prop
  | some r, K => r.pre ∧ K r.lv r.hp
  | none, _ => False

def obind {α : Type} : Option α → (α → Prop) → Prop
  | some r, K => K r
  | none, _ => False

/-- A truth value's branch. -/
def brkT (b : Bool) (A B : Unit → Prop) : Prop := (b = true → A ()) ∧ (b = false → B ())
def vbrk : Option LV → (Unit → Prop) → (Unit → Prop) → Prop
  | some (.one (.iv (.sc (.bool b)))), A, B => brkT b A B
  | _, _, _ => False

/-- A guard's branch: it may have been left out itself. -/
def gbrk : Option LV → (Unit → Prop) → (Unit → Prop) → (Unit → Prop) → Prop
  | some (.one (.iv (.sc (.bool b)))), A, B, _ => brkT b A B
  | some (.tup []), _, _, S => S ()
  | _, _, _, _ => False
theorem gbrk_some (b : Bool) (A B S : Unit → Prop) : gbrk (some (.one (.iv (.sc (.bool b))))) A B S = brkT b A B := rfl
theorem gbrk_tup (A B S : Unit → Prop) : gbrk (some (.tup [])) A B S = S () := rfl

def awpT (P : Program) (k : Nat) (rc : RC) (Q : AX → Tm → Hp → Prop) (tm : Tm) (hp : Hp) (_ : Unit) : Prop := awp P k rc Q tm hp
def aopsT (P : Program) (l : List ROp) (K : Tm → Hp → Prop) (Kp : Value → Hp → Prop) (tm : Tm) (hp : Hp) (_ : Unit) : Prop := aops P l K Kp tm hp
def opsK (P : Program) (l : List ROp) (K : Tm → Hp → Prop) (Kp : Value → Hp → Prop) (tm : Tm) (d : Option Nat) (lv : LV) (hp : Hp) : Prop := aops P l K Kp (tput tm d lv) hp
def panK (Q : AX → Tm → Hp → Prop) (v : Value) (hp : Hp) : Prop := Q (.pan v) [] hp

/-- What holds where something is known. -/
def grantT (p : Prop) (A : Unit → Prop) : Prop := p → A ()
def lenT (K : LV → Hp → Prop) (n : Int) (hp : Hp) (_ : Unit) : Prop := K (.one (.iv (.sc (.int .i64 n)))) hp
theorem rbind_some (p : Prop) (lv : LV) (hp : Hp) (K : LV → Hp → Prop) : rbind (some ⟨p, lv, hp⟩) K = (p ∧ K lv hp) := rfl
theorem rbind_true (lv : LV) (hp : Hp) (K : LV → Hp → Prop) : rbind (some ⟨True, lv, hp⟩) K = K lv hp := by simp [rbind]
theorem obind_some {α : Type} (x : α) (K : α → Prop) : obind (some x) K = K x := rfl
theorem brkT_t (A B : Unit → Prop) : brkT true A B = A () := by simp [brkT]
theorem brkT_f (A B : Unit → Prop) : brkT false A B = B () := by simp [brkT]
theorem vbrk_some (b : Bool) (A B : Unit → Prop) : vbrk (some (.one (.iv (.sc (.bool b))))) A B = brkT b A B := rfl
theorem brkT.mk {b : Bool} {A B : Unit → Prop} (h1 : b = true → A ()) (h2 : b = false → B ()) : brkT b A B := ⟨h1, h2⟩

section
variable (P : Program) (tm : Tm) (hp : Hp) (K : LV → Hp → Prop) (Kp : Value → Hp → Prop)
theorem lenT_app (n : Int) : lenT K n hp () = K (.one (.iv (.sc (.int .i64 n)))) hp := rfl
theorem awpT_app (k : Nat) (rc : RC) (Q : AX → Tm → Hp → Prop) : awpT P k rc Q tm hp () = awp P k rc Q tm hp := rfl
theorem aopsT_app (l : List ROp) (K : Tm → Hp → Prop) : aopsT P l K Kp tm hp () = aops P l K Kp tm hp := rfl
theorem opsK_app (l : List ROp) (K : Tm → Hp → Prop) (d : Option Nat) (lv : LV) : opsK P l K Kp tm d lv hp = aops P l K Kp (tput tm d lv) hp := rfl
theorem panK_app (Q : AX → Tm → Hp → Prop) (v : Value) : panK Q v hp = Q (.pan v) [] hp := rfl

theorem aop1_plain {k : RK} (h : k.plain = true) (hg : grant tm hp k = True) : aop1 P tm hp k K Kp = rbind (aop tm hp k) K := by
  cases k <;> simp only [RK.plain, Bool.false_eq_true] at h <;> simp only [aop1] <;> (split <;> rename_i e <;> rw [e] <;> simp only [rbind, hg, true_implies])

def lenK (hp : Hp) (K : LV → Hp → Prop) (v : LV) : Prop := match alen hp v with
  | some n => lenOk hp v → K (.one (sct (.int .i64 n))) hp
  | none => False
theorem aop1_len (x : Od) : aop1 P tm hp (.len x) K Kp = obind (odv tm x) (lenK hp K) := by
  simp only [aop1, aop, grant]
  cases odv tm x with
  | none => rfl
  | some v =>
    simp only [obind, lenK]
    cases alen hp v <;> simp
theorem lenK_sl (s : Nat) (rows : List (List IV)) : lenK hp K (.one (.iv (.sl s rows))) = grantT (rows.length ≤ 140737488355328) (lenT K (rows.length : Int) hp) := rfl
theorem lenK_nil : lenK hp K (.one (.iv (.sc (.slice none 0 0)))) = K (.one (.iv (.sc (.int .i64 0)))) hp := by
  simp [lenK, lenOk, alen, sct]
theorem lenK_own (b ver off len : Nat) : lenK hp K (.one (.own b ver off len)) = (hp.live b ver = true ∧ grantT (len ≤ 140737488355328) (lenT K (len : Int) hp)) := by
  simp only [lenK, alen, lenOk]
  cases hp.live b ver <;> simp [grantT, lenT, sct]

def callK (P : Program) (f : FuncId) (hp : Hp) (K : LV → Hp → Prop) (Kp : Value → Hp → Prop) (l : List LV) : Prop := acall P f l hp K Kp
theorem callK_app (f : FuncId) (l : List LV) : callK P f hp K Kp l = acall P f l hp K Kp := rfl
theorem aop1_call (f : FuncId) (args : List Od) : aop1 P tm hp (.call f args) K Kp = obind (odvs tm args) (callK P f hp K Kp) := by
  simp only [aop1]; split <;> rename_i e <;> rw [e] <;> rfl

def callvK3 (P : Program) (hp : Hp) (K : LV → Hp → Prop) (Kp : Value → Hp → Prop) (p : FuncId × List AV) (l : List LV) : Prop := HasB P p.1 ∧ acall P p.1 (l ++ p.2.map .one) hp K Kp
def callvK2 (P : Program) (tm : Tm) (hp : Hp) (K : LV → Hp → Prop) (Kp : Value → Hp → Prop) (args : List Od) (p : FuncId × List AV) : Prop := obind (odvs tm args) (callvK3 P hp K Kp p)
def callvK1 (P : Program) (tm : Tm) (hp : Hp) (K : LV → Hp → Prop) (Kp : Value → Hp → Prop) (args : List Od) (v : LV) : Prop := obind (fnOf v) (callvK2 P tm hp K Kp args)
theorem callvK1_app (args : List Od) (v : LV) : callvK1 P tm hp K Kp args v = obind (fnOf v) (callvK2 P tm hp K Kp args) := rfl
theorem callvK2_app (args : List Od) (p : FuncId × List AV) : callvK2 P tm hp K Kp args p = obind (odvs tm args) (callvK3 P hp K Kp p) := rfl
theorem callvK3_app (g : FuncId) (caps : List AV) (l : List LV) : callvK3 P hp K Kp (g, caps) l = (HasB P g ∧ acall P g (l ++ caps.map .one) hp K Kp) := rfl

theorem aop1_callv (f : Od) (args : List Od) : aop1 P tm hp (.callv f args) K Kp = obind (odv tm f) (callvK1 P tm hp K Kp args) := by
  simp only [aop1]
  cases odv tm f with
  | none => rfl
  | some v =>
    simp only [obind, callvK1]
    cases fnOf v with
    | none => rfl
    | some p => simp only [obind, callvK2]; cases odvs tm args <;> rfl

def pvK (hp : Hp) (Kp : Value → Hp → Prop) : Value → Prop
  | .iface t u => Kp (.iface t u) hp
  | _ => False
def pvK1 (hp : Hp) (Kp : Value → Hp → Prop) (v : LV) : Prop := obind v.val (pvK hp Kp)
theorem pvK1_app (v : LV) : pvK1 hp Kp v = obind v.val (pvK hp Kp) := rfl
theorem pvK_app (t : TypeId) (u : Value) : pvK hp Kp (.iface t u) = Kp (.iface t u) hp := rfl
theorem aop1_panic (x : Od) : aop1 P tm hp (.panic x) K Kp = obind (odv tm x) (pvK1 hp Kp) := by
  simp only [aop1]
  cases odv tm x with
  | none => rfl
  | some v =>
    simp only [obind, pvK1]
    cases v.val with
    | none => rfl
    | some u => cases u <;> rfl

theorem aops_nil (K : Tm → Hp → Prop) : aops P [] K Kp tm hp = K tm hp := rfl
theorem aops_cons (K : Tm → Hp → Prop) (d : Option Nat) (k : RK) (r : List ROp) : aops P (⟨d, k, none⟩ :: r) K Kp tm hp = aop1 P tm hp k (opsK P r K Kp tm d) Kp := rfl
def guardT (P : Program) (k : RK) (l : List ROp) (K : Tm → Hp → Prop) (Kp : Value → Hp → Prop) (tm : Tm) (hp : Hp) (d : Option Nat) (_ : Unit) : Prop := aop1 P tm hp k (opsK P l K Kp tm d) Kp
theorem guardT_app (K : Tm → Hp → Prop) (d : Option Nat) (k : RK) (r : List ROp) : guardT P k r K Kp tm hp d () = aop1 P tm hp k (opsK P r K Kp tm d) Kp := rfl
theorem aops_cond (K : Tm → Hp → Prop) (d : Option Nat) (k : RK) (j : Nat) (r : List ROp) : aops P (⟨d, k, some (j, true)⟩ :: r) K Kp tm hp =
    gbrk (tm.get j) (guardT P k r K Kp (tset tm j (.one (.iv (.sc (.bool true))))) hp d)
      (aopsT P r K Kp (tput (tset tm j (.one (.iv (.sc (.bool false))))) d (.tup [])) hp) (aopsT P r K Kp (tput tm d (.tup [])) hp) := by
  simp only [aops, adraw, gd]
  unfold gbrk
  split
  · rename_i b e
    simp only [e]
    cases b <;> simp [brk, brkT, guardT, aopsT] <;> first | rfl | (intros; rfl) | skip
  · rename_i e
    simp only [e]
    rfl
  · rename_i hn1 hn2
    split
    · rename_i b e; exact absurd e (hn1 b)
    · rename_i e; exact absurd e hn2
    · rfl
theorem aops_ncond (K : Tm → Hp → Prop) (d : Option Nat) (k : RK) (j : Nat) (r : List ROp) : aops P (⟨d, k, some (j, false)⟩ :: r) K Kp tm hp =
    gbrk (tm.get j) (aopsT P r K Kp (tput (tset tm j (.one (.iv (.sc (.bool true))))) d (.tup [])) hp)
      (guardT P k r K Kp (tset tm j (.one (.iv (.sc (.bool false))))) hp d) (aopsT P r K Kp (tput tm d (.tup [])) hp) := by
  simp only [aops, adraw, gd]
  unfold gbrk
  split
  · rename_i b e
    simp only [e]
    cases b <;> simp [brk, brkT, guardT, aopsT] <;> first | rfl | (intros; rfl) | skip
  · rename_i e
    simp only [e]
    rfl
  · rename_i hn1 hn2
    split
    · rename_i b e; exact absurd e (hn1 b)
    · rename_i e; exact absurd e hn2
    · rfl

variable (k : Nat) (Q : AX → Tm → Hp → Prop)
/-- What follows, where a part ends as parts do. -/
def seqK (P : Program) (k : Nat) (b : RC) (Q : AX → Tm → Hp → Prop) : AX → Tm → Hp → Prop := fun e tm' hp' => match e with
    | .normal => awp P k b Q tm' hp'
    | e => Q e tm' hp'
def blockK (id : Nat) (Q : AX → Tm → Hp → Prop) : AX → Tm → Hp → Prop := fun e tm' hp' => match e with
    | .exit i => if i = id then Q .normal tm' hp' else Q (.exit i) tm' hp'
    | e => Q e tm' hp'
theorem awp_skip : awp P k .skip Q tm hp = Q .normal tm hp := rfl
theorem awp_reg (ops : List ROp) : awp P k (.reg ops) Q tm hp = aops P ops (Q .normal) (panK Q) tm hp := rfl
theorem awp_dreg (ops : List (ROp × Bool)) : awp P k (.dreg ops) Q tm hp = adraw P ops (Q .normal) tm hp := rfl
theorem awp_greg (ops : List DOp) : awp P k (.greg ops) Q tm hp = gd P ops (Q .normal) (panK Q) [] [] 0 tm hp := rfl
theorem awp_seq (a b : RC) : awp P k (.seq a b) Q tm hp = awp P k a (seqK P k b Q) tm hp := rfl
theorem awp_cond (t : Nat) (a b : RC) : awp P k (.cond (.t t) a b) Q tm hp = vbrk (tm.get t) (awpT P k a Q (tset tm t (.one (.iv (.sc (.bool true))))) hp) (awpT P k b Q (tset tm t (.one (.iv (.sc (.bool false))))) hp) := by
  simp only [awp]
  cases h : tm.get t with
  | none => rfl
  | some lv =>
    unfold vbrk
    split
    · rename_i b e
      simp only [Option.some.injEq] at e
      subst e
      simp [brk, brkT, awpT]
    · rename_i hn
      split
      · rename_i b e
        exact absurd e (by simpa using hn b)
      · rfl
theorem awp_block (id : Nat) (a : RC) : awp P k (.block id a) Q tm hp = awp P k a (blockK id Q) tm hp := rfl
theorem awp_loop (a : RC) : awp P k (.loop a) Q tm hp = aloop k (awp P k a) Q tm hp := rfl
theorem awp_exit (id : Nat) : awp P k (.exit id) Q tm hp = Q (.exit id) tm hp := rfl
theorem awp_ret : awp P k .ret Q tm hp = Q .ret tm hp := rfl
theorem seqK_normal (b : RC) : seqK P k b Q .normal tm hp = awp P k b Q tm hp := rfl
theorem seqK_exit (b : RC) (i : Nat) : seqK P k b Q (.exit i) tm hp = Q (.exit i) tm hp := rfl
theorem seqK_ret (b : RC) : seqK P k b Q .ret tm hp = Q .ret tm hp := rfl
theorem seqK_pan (b : RC) (v : Value) : seqK P k b Q (.pan v) tm hp = Q (.pan v) tm hp := rfl
theorem blockK_normal (id : Nat) : blockK id Q .normal tm hp = Q .normal tm hp := rfl
theorem blockK_exit (id i : Nat) : blockK id Q (.exit i) tm hp = if i = id then Q .normal tm hp else Q (.exit i) tm hp := rfl
theorem blockK_ret (id : Nat) : blockK id Q .ret tm hp = Q .ret tm hp := rfl
theorem blockK_pan (id : Nat) (v : Value) : blockK id Q (.pan v) tm hp = Q (.pan v) tm hp := rfl
theorem tput_none (lv : LV) : tput tm none lv = tm := rfl
theorem tput_some (d : Nat) (lv : LV) : tput tm (some d) lv = (d, lv) :: tm := rfl
theorem tget_cons (a n : Nat) (v : LV) : Tm.get ((a, v) :: tm) n = if a = n then some v else tm.get n := rfl
theorem tset_cons (a n : Nat) (x v : LV) : tset ((a, x) :: tm) n v = if a = n then (a, v) :: tm else (a, x) :: tset tm n v := rfl
end

/-! #### regions whose order is drawn -/
section
variable (P : Program) (tm : Tm) (hp : Hp) (K : Tm → Hp → Prop)
def drawK (P : Program) (l : List (ROp × Bool)) (K : Tm → Hp → Prop) (tm : Tm) (d : Option Nat) (lv : LV) (hp : Hp) : Prop := adraw P l K (tput tm d lv) hp
def drawT (P : Program) (l : List (ROp × Bool)) (K : Tm → Hp → Prop) (tm : Tm) (hp : Hp) (_ : Unit) : Prop := adraw P l K tm hp
def dopT (P : Program) (w : Bool) (k : RK) (l : List (ROp × Bool)) (K : Tm → Hp → Prop) (tm : Tm) (hp : Hp) (d : Option Nat) (_ : Unit) : Prop := dop1 P tm hp w k (drawK P l K tm d)
theorem drawK_app (l : List (ROp × Bool)) (d : Option Nat) (lv : LV) : drawK P l K tm d lv hp = adraw P l K (tput tm d lv) hp := rfl
theorem drawT_app (l : List (ROp × Bool)) : drawT P l K tm hp () = adraw P l K tm hp := rfl
theorem dopT_app (w : Bool) (k : RK) (l : List (ROp × Bool)) (d : Option Nat) : dopT P w k l K tm hp d () = dop1 P tm hp w k (drawK P l K tm d) := rfl
theorem adraw_nil : adraw P [] K tm hp = K tm hp := rfl
theorem adraw_cons (d : Option Nat) (k : RK) (w : Bool) (r : List (ROp × Bool)) : adraw P ((⟨d, k, none⟩, w) :: r) K tm hp = dop1 P tm hp w k (drawK P r K tm d) := rfl
theorem adraw_cond (d : Option Nat) (k : RK) (w : Bool) (j : Nat) (r : List (ROp × Bool)) : adraw P ((⟨d, k, some (j, true)⟩, w) :: r) K tm hp =
    gbrk (tm.get j) (dopT P w k r K tm hp d) (drawT P r K (tput tm d (.tup [])) hp) (drawT P r K (tput tm d (.tup [])) hp) := by
  simp only [aops, adraw, gd]
  unfold gbrk
  split
  · rename_i b e
    simp only [e]
    cases b <;> simp [brk, brkT, dopT, drawT] <;> first | rfl | (intros; rfl) | skip
  · rename_i e
    simp only [e]
    rfl
  · rename_i hn1 hn2
    split
    · rename_i b e; exact absurd e (hn1 b)
    · rename_i e; exact absurd e hn2
    · rfl
theorem adraw_ncond (d : Option Nat) (k : RK) (w : Bool) (j : Nat) (r : List (ROp × Bool)) : adraw P ((⟨d, k, some (j, false)⟩, w) :: r) K tm hp =
    gbrk (tm.get j) (drawT P r K (tput tm d (.tup [])) hp) (dopT P w k r K tm hp d) (drawT P r K (tput tm d (.tup [])) hp) := by
  simp only [aops, adraw, gd]
  unfold gbrk
  split
  · rename_i b e
    simp only [e]
    cases b <;> simp [brk, brkT, dopT, drawT] <;> first | rfl | (intros; rfl) | skip
  · rename_i e
    simp only [e]
    rfl
  · rename_i hn1 hn2
    split
    · rename_i b e; exact absurd e (hn1 b)
    · rename_i e; exact absurd e hn2
    · rfl

theorem looks_heap {k : RK} {w : Bool} {r : R1} (hp' : k.plain = true) (h : aop tm hp k = some r) (ht : k.turns w = false) : r.hp = hp := by
  have hc : k.cls = 0 ∨ k.cls = 1 := by
    cases k <;> simp only [RK.plain, Bool.false_eq_true] at hp' <;> simp only [RK.turns] at ht <;> simp only [RK.cls] at ht ⊢ <;> first | (simp at ht; done) | (simp; done) | (split <;> simp_all; done)
  rcases hc with hc | hc
  · exact (aop_pure (hp2 := hp) hc h).2
  · exact aop_reads hc h

theorem dop1_plain (w : Bool) {k : RK} (K : LV → Hp → Prop) (h : k.plain = true) (hg : grant tm hp k = True) : dop1 P tm hp w k K = rbind (aop tm hp k) K := by
  have key : dop1 P tm hp w k K = ∃ lv h1, aop1 P tm hp k (fun lv' hp' => lv' = lv ∧ hp' = h1) (fun _ _ => False) ∧ (k.turns w = false → h1 = hp) ∧ K lv h1 := by
    cases k <;> first | rfl | skip
    simp only [dop1, aop1, hg, true_implies]
    cases hq : aop tm hp (.len _) with
    | none => simp
    | some r =>
      have e : r.hp = hp := aop_reads (k := .len _) rfl hq
      simp only [eq_iff_iff]
      constructor
      · rintro ⟨h1, h2⟩; exact ⟨r.lv, hp, ⟨h1, rfl, e⟩, fun _ => rfl, h2⟩
      · rintro ⟨lv, h1, ⟨k1, rfl, rfl⟩, _, k2⟩; rw [e] at k2; exact ⟨k1, k2⟩
  rw [key]
  simp only [aop1_plain P tm hp _ _ h hg]
  cases hq : aop tm hp k with
  | none => simp [rbind]
  | some r =>
    simp only [rbind, eq_iff_iff]
    constructor
    · rintro ⟨lv, h1, ⟨k1, rfl, rfl⟩, _, k2⟩; exact ⟨k1, k2⟩
    · rintro ⟨h1, h2⟩; exact ⟨r.lv, r.hp, ⟨h1, rfl, rfl⟩, fun ht => looks_heap tm hp h hq ht, h2⟩
theorem dop1_len (w : Bool) (x : Od) (K : LV → Hp → Prop) : dop1 P tm hp w (.len x) K = rbind (aop tm hp (.len x)) K := by
  simp only [dop1]
  cases hq : aop tm hp (.len x) with
  | none => rfl
  | some r => simp only [rbind, aop_reads (k := .len x) rfl hq]
/-- What a call of a region whose order is drawn owes. -/
def dcallK (P : Program) (f : FuncId) (hp : Hp) (w : Bool) (K : LV → Hp → Prop) (l : List LV) : Prop := ∃ lv h1, acall P f l hp (fun lv' hp' => lv' = lv ∧ hp' = h1) (fun _ _ => False) ∧ (w = false → h1 = hp) ∧ K lv h1
theorem dop1_call (w : Bool) (f : FuncId) (args : List Od) (K : LV → Hp → Prop) : dop1 P tm hp w (.call f args) K = obind (odvs tm args) (dcallK P f hp w K) := by
  simp only [dop1, aop1, RK.turns]
  cases odvs tm args with
  | none => simp [obind]
  | some l => rfl
end

/-! #### regions with looks and a panic -/
section
variable (P : Program) (tm : Tm) (hp : Hp) (K : Tm → Hp → Prop) (Kp : Value → Hp → Prop) (hs : List (Nat × Hp)) (ps : List Pd) (i : Nat)
def gdK (P : Program) (l : List DOp) (K : Tm → Hp → Prop) (Kp : Value → Hp → Prop) (hs : List (Nat × Hp)) (ps : List Pd) (i : Nat) (tm : Tm) (hp : Hp) : Prop := gd P l K Kp hs ps i tm hp
def gdT (P : Program) (l : List DOp) (K : Tm → Hp → Prop) (Kp : Value → Hp → Prop) (o : DOp) (hs : List (Nat × Hp)) (ps : List Pd) (i : Nat) (tm : Tm) (hp : Hp) (_ : Unit) : Prop :=
  gchk2 P hp o.ua ps ∧ gd P l K Kp (if o.sv then (i, hp) :: hs else hs) ps (i + 1) (tput tm o.r.d (.tup [])) hp
def ggT (P : Program) (l : List DOp) (K : Tm → Hp → Prop) (Kp : Value → Hp → Prop) (o : DOp) (hs : List (Nat × Hp)) (ps : List Pd) (i : Nat) (tm : Tm) (hp : Hp) (_ : Unit) : Prop := ggo P o hs ps i tm hp (gdK P l K Kp) Kp
/-- What follows an operation of such a region. -/
def ggK (P : Program) (o : DOp) (hs : List (Nat × Hp)) (ps : List Pd) (i : Nat) (tm : Tm) (hp : Hp) (next : List (Nat × Hp) → List Pd → Nat → Tm → Hp → Prop) (lv : LV) (h1 : Hp) : Prop :=
  gchk1 P tm o.r.k lv o.ub hs ∧ gchk2 P h1 o.ua ps ∧ next (if o.sv then (i, hp) :: hs else hs) (if o.sp then ⟨i, o.r.k, tm, lv⟩ :: ps else ps) (i + 1) (tput tm o.r.d lv) h1
theorem gdK_app (l : List DOp) : gdK P l K Kp hs ps i tm hp = gd P l K Kp hs ps i tm hp := rfl
theorem gdT_app (l : List DOp) (o : DOp) : gdT P l K Kp o hs ps i tm hp () = (gchk2 P hp o.ua ps ∧ gd P l K Kp (if o.sv then (i, hp) :: hs else hs) ps (i + 1) (tput tm o.r.d (.tup [])) hp) := rfl
theorem ggT_app (l : List DOp) (o : DOp) : ggT P l K Kp o hs ps i tm hp () = ggo P o hs ps i tm hp (gdK P l K Kp) Kp := rfl
theorem gd_nil : gd P [] K Kp hs ps i tm hp = K tm hp := rfl
theorem gd_cons (d : Option Nat) (k : RK) (w p : Bool) (ub ua : List Nat) (sv sp : Bool) (r : List DOp) : gd P (⟨⟨d, k, none⟩, w, p, ub, ua, sv, sp⟩ :: r) K Kp hs ps i tm hp = ggo P ⟨⟨d, k, none⟩, w, p, ub, ua, sv, sp⟩ hs ps i tm hp (gdK P r K Kp) Kp := rfl
theorem gd_cond (d : Option Nat) (k : RK) (w p : Bool) (ub ua : List Nat) (sv sp : Bool) (j : Nat) (r : List DOp) : gd P (⟨⟨d, k, some (j, true)⟩, w, p, ub, ua, sv, sp⟩ :: r) K Kp hs ps i tm hp =
    gbrk (tm.get j) (ggT P r K Kp ⟨⟨d, k, some (j, true)⟩, w, p, ub, ua, sv, sp⟩ hs ps i tm hp) (gdT P r K Kp ⟨⟨d, k, some (j, true)⟩, w, p, ub, ua, sv, sp⟩ hs ps i tm hp) (gdT P r K Kp ⟨⟨d, k, some (j, true)⟩, w, p, ub, ua, sv, sp⟩ hs ps i tm hp) := by
  simp only [aops, adraw, gd]
  unfold gbrk
  split
  · rename_i b e
    simp only [e]
    cases b <;> simp [brk, brkT, ggT, gdT] <;> first | rfl | (intros; rfl) | skip
  · rename_i e
    simp only [e]
    rfl
  · rename_i hn1 hn2
    split
    · rename_i b e; exact absurd e (hn1 b)
    · rename_i e; exact absurd e hn2
    · rfl
theorem gd_ncond (d : Option Nat) (k : RK) (w p : Bool) (ub ua : List Nat) (sv sp : Bool) (j : Nat) (r : List DOp) : gd P (⟨⟨d, k, some (j, false)⟩, w, p, ub, ua, sv, sp⟩ :: r) K Kp hs ps i tm hp =
    gbrk (tm.get j) (gdT P r K Kp ⟨⟨d, k, some (j, false)⟩, w, p, ub, ua, sv, sp⟩ hs ps i tm hp) (ggT P r K Kp ⟨⟨d, k, some (j, false)⟩, w, p, ub, ua, sv, sp⟩ hs ps i tm hp) (gdT P r K Kp ⟨⟨d, k, some (j, false)⟩, w, p, ub, ua, sv, sp⟩ hs ps i tm hp) := by
  simp only [aops, adraw, gd]
  unfold gbrk
  split
  · rename_i b e
    simp only [e]
    cases b <;> simp [brk, brkT, ggT, gdT] <;> first | rfl | (intros; rfl) | skip
  · rename_i e
    simp only [e]
    rfl
  · rename_i hn1 hn2
    split
    · rename_i b e; exact absurd e (hn1 b)
    · rename_i e; exact absurd e hn2
    · rfl

theorem gop1_plain {k : RK} (h : k.plain = true) {r : R1} (hr : aop tm hp k = some r) (hpre : r.pre) : gop1 P tm hp k r.lv r.hp := by
  have gen : (∀ x, k ≠ .len x) → gop1 P tm hp k r.lv r.hp := by
    intro hn
    have hg : grant tm hp k = True := by cases k <;> first | rfl | exact absurd rfl (hn _)
    have : aop1 P tm hp k (fun lv' hp' => lv' = r.lv ∧ hp' = r.hp) (fun _ _ => False) := by
      rw [aop1_plain P tm hp _ _ h hg, hr]; exact ⟨hpre, rfl, rfl⟩
    cases k <;> first | exact this | exact absurd rfl (hn _)
  by_cases hl : ∃ x, k = .len x
  · obtain ⟨x, rfl⟩ := hl
    exact ⟨r, hr, hpre, rfl, aop_reads (k := .len _) rfl hr⟩
  · exact gen fun x hx => hl ⟨x, hx⟩

theorem gop1_plain_inv {k : RK} (h : k.plain = true) {lv : LV} {h1 : Hp} (hk : gop1 P tm hp k lv h1) : ∃ r, aop tm hp k = some r ∧ r.pre ∧ lv = r.lv ∧ h1 = r.hp := by
  have gen : (∀ x, k ≠ .len x) → ∃ r, aop tm hp k = some r ∧ r.pre ∧ lv = r.lv ∧ h1 = r.hp := by
    intro hn
    have hg : grant tm hp k = True := by cases k <;> first | rfl | exact absurd rfl (hn _)
    have : aop1 P tm hp k (fun lv' hp' => lv' = lv ∧ hp' = h1) (fun _ _ => False) := by
      cases k <;> first | exact hk | exact absurd rfl (hn _)
    rw [aop1_plain P tm hp _ _ h hg] at this
    cases hq : aop tm hp k with
    | none => rw [hq] at this; exact this.elim
    | some r => rw [hq] at this; exact ⟨r, rfl, this.1, this.2.1.symm, this.2.2.symm⟩
  by_cases hl : ∃ x, k = .len x
  · obtain ⟨x, rfl⟩ := hl
    obtain ⟨r, hr, h2, rfl, rfl⟩ := hk
    exact ⟨r, hr, h2, rfl, (aop_reads (k := .len _) rfl hr).symm⟩
  · exact gen fun x hx => hl ⟨x, hx⟩

theorem ggo_plain (o : DOp) (next : List (Nat × Hp) → List Pd → Nat → Tm → Hp → Prop) (h : o.r.k.plain = true) (hp0 : o.p = false) : ggo P o hs ps i tm hp next Kp = rbind (aop tm hp o.r.k) (ggK P o hs ps i tm hp next) := by
  unfold ggo
  simp only [hp0, Bool.false_eq_true, false_and, or_false, eq_iff_iff]
  constructor
  · rintro ⟨lv, h1, k1, k2, k3⟩
    obtain ⟨r, hr, hpre, rfl, rfl⟩ := gop1_plain_inv P tm hp h k1
    rw [hr]
    exact ⟨hpre, k3⟩
  · intro h'
    cases hq : aop tm hp o.r.k with
    | none => rw [hq] at h'; exact h'.elim
    | some r =>
      rw [hq] at h'
      exact ⟨r.lv, r.hp, gop1_plain P tm hp h hq h'.1, fun ht => looks_heap tm hp h hq ht, h'.2⟩
theorem ggK_app (d : Option Nat) (k : RK) (g : Option (Nat × Bool)) (w p : Bool) (ub ua : List Nat) (sv sp : Bool) (next : List (Nat × Hp) → List Pd → Nat → Tm → Hp → Prop) (lv : LV) (h1 : Hp) : ggK P ⟨⟨d, k, g⟩, w, p, ub, ua, sv, sp⟩ hs ps i tm hp next lv h1 =
  (gchk1 P tm k lv ub hs ∧ gchk2 P h1 ua ps ∧ next (if sv then (i, hp) :: hs else hs) (if sp then ⟨i, k, tm, lv⟩ :: ps else ps) (i + 1) (tput tm d lv) h1) := rfl
/-- A call of such a region. -/
def gcallK (P : Program) (f : FuncId) (o : DOp) (hs : List (Nat × Hp)) (ps : List Pd) (i : Nat) (tm : Tm) (hp : Hp) (next : List (Nat × Hp) → List Pd → Nat → Tm → Hp → Prop) (Kp : Value → Hp → Prop) (l : List LV) : Prop :=
  (∃ lv h1, acall P f l hp (fun lv' hp' => lv' = lv ∧ hp' = h1) (fun _ _ => False) ∧ (o.w = false → h1 = hp) ∧ ggK P o hs ps i tm hp next lv h1) ∨ (o.p = true ∧ acall P f l hp (fun _ _ => False) Kp)
theorem ggo_call (d : Option Nat) (f : FuncId) (args : List Od) (g : Option (Nat × Bool)) (w p : Bool) (ub ua : List Nat) (sv sp : Bool) (next : List (Nat × Hp) → List Pd → Nat → Tm → Hp → Prop) : ggo P ⟨⟨d, .call f args, g⟩, w, p, ub, ua, sv, sp⟩ hs ps i tm hp next Kp = obind (odvs tm args) (gcallK P f ⟨⟨d, .call f args, g⟩, w, p, ub, ua, sv, sp⟩ hs ps i tm hp next Kp) := by
  simp only [ggo, gop1, aop1, RK.turns]
  cases odvs tm args with
  | none => simp [obind]
  | some l => rfl
end

/-! #### each operation -/
theorem aop1_all :
    (∀ (P : Program) (tm : Tm) (hp : Hp) (K : LV → Hp → Prop) (Kp : Value → Hp → Prop) (x : Od), aop1 P tm hp (.mov x) K Kp = rbind (aop tm hp (.mov x)) K) ∧
    (∀ (P : Program) (tm : Tm) (hp : Hp) (K : LV → Hp → Prop) (Kp : Value → Hp → Prop) (c a b : Od), aop1 P tm hp (.pick c a b) K Kp = rbind (aop tm hp (.pick c a b)) K) ∧
    (∀ (P : Program) (tm : Tm) (hp : Hp) (K : LV → Hp → Prop) (Kp : Value → Hp → Prop) (zero : List Value), aop1 P tm hp (.alloc zero) K Kp = rbind (aop tm hp (.alloc zero)) K) ∧
    (∀ (P : Program) (tm : Tm) (hp : Hp) (K : LV → Hp → Prop) (Kp : Value → Hp → Prop) (imm : Bool) (sz : Nat) (x : Od), aop1 P tm hp (.box imm sz x) K Kp = rbind (aop tm hp (.box imm sz x)) K) ∧
    (∀ (P : Program) (tm : Tm) (hp : Hp) (K : LV → Hp → Prop) (Kp : Value → Hp → Prop) (zero : List Value) (parts : List (Nat × Nat × Od)), aop1 P tm hp (.build zero parts) K Kp = rbind (aop tm hp (.build zero parts)) K) ∧
    (∀ (P : Program) (tm : Tm) (hp : Hp) (K : LV → Hp → Prop) (Kp : Value → Hp → Prop) (imm : Bool) (sz : Nat) (xs : List Od), aop1 P tm hp (.bslice imm sz xs) K Kp = rbind (aop tm hp (.bslice imm sz xs)) K) ∧
    (∀ (P : Program) (tm : Tm) (hp : Hp) (K : LV → Hp → Prop) (Kp : Value → Hp → Prop) (agg : Bool) (sz : Nat) (a : Od), aop1 P tm hp (.load agg sz a) K Kp = rbind (aop tm hp (.load agg sz a)) K) ∧
    (∀ (P : Program) (tm : Tm) (hp : Hp) (K : LV → Hp → Prop) (Kp : Value → Hp → Prop) (sz : Nat) (a v : Od), aop1 P tm hp (.store sz a v) K Kp = rbind (aop tm hp (.store sz a v)) K) ∧
    (∀ (P : Program) (tm : Tm) (hp : Hp) (K : LV → Hp → Prop) (Kp : Value → Hp → Prop) (x : Od), aop1 P tm hp (.nilc x) K Kp = rbind (aop tm hp (.nilc x)) K) ∧
    (∀ (P : Program) (tm : Tm) (hp : Hp) (K : LV → Hp → Prop) (Kp : Value → Hp → Prop) (op : BinOp) (x y : Od), aop1 P tm hp (.bin op x y) K Kp = rbind (aop tm hp (.bin op x y)) K) ∧
    (∀ (P : Program) (tm : Tm) (hp : Hp) (K : LV → Hp → Prop) (Kp : Value → Hp → Prop) (op : BinOp) (x y : Od), aop1 P tm hp (.binb op x y) K Kp = rbind (aop tm hp (.binb op x y)) K) ∧
    (∀ (P : Program) (tm : Tm) (hp : Hp) (K : LV → Hp → Prop) (Kp : Value → Hp → Prop) (x : Od), aop1 P tm hp (.not x) K Kp = rbind (aop tm hp (.not x)) K) ∧
    (∀ (P : Program) (tm : Tm) (hp : Hp) (K : LV → Hp → Prop) (Kp : Value → Hp → Prop) (x : Od), aop1 P tm hp (.neg x) K Kp = rbind (aop tm hp (.neg x)) K) ∧
    (∀ (P : Program) (tm : Tm) (hp : Hp) (K : LV → Hp → Prop) (Kp : Value → Hp → Prop) (ik : IntKind) (x : Od), aop1 P tm hp (.iconv ik x) K Kp = rbind (aop tm hp (.iconv ik x)) K) ∧
    (∀ (P : Program) (tm : Tm) (hp : Hp) (K : LV → Hp → Prop) (Kp : Value → Hp → Prop) (x : Od), aop1 P tm hp (.i2s x) K Kp = rbind (aop tm hp (.i2s x)) K) ∧
    (∀ (P : Program) (tm : Tm) (hp : Hp) (K : LV → Hp → Prop) (Kp : Value → Hp → Prop) (x : Od), aop1 P tm hp (.s2s x) K Kp = rbind (aop tm hp (.s2s x)) K) ∧
    (∀ (P : Program) (tm : Tm) (hp : Hp) (K : LV → Hp → Prop) (Kp : Value → Hp → Prop) (x : Od), aop1 P tm hp (.b2s x) K Kp = rbind (aop tm hp (.b2s x)) K) ∧
    (∀ (P : Program) (tm : Tm) (hp : Hp) (K : LV → Hp → Prop) (Kp : Value → Hp → Prop) (t : TypeId) (x : Od), aop1 P tm hp (.mkif t x) K Kp = rbind (aop tm hp (.mkif t x)) K) ∧
    (∀ (P : Program) (tm : Tm) (hp : Hp) (K : LV → Hp → Prop) (Kp : Value → Hp → Prop) (f : Fn) (caps : List Od), aop1 P tm hp (.mkfn f caps) K Kp = rbind (aop tm hp (.mkfn f caps)) K) ∧
    (∀ (P : Program) (tm : Tm) (hp : Hp) (K : LV → Hp → Prop) (Kp : Value → Hp → Prop) (x : Od) (lo hi : Option Od), aop1 P tm hp (.sslice x lo hi) K Kp = rbind (aop tm hp (.sslice x lo hi)) K) ∧
    (∀ (P : Program) (tm : Tm) (hp : Hp) (K : LV → Hp → Prop) (Kp : Value → Hp → Prop) (sz : Nat) (x : Od) (lo hi : Option Od), aop1 P tm hp (.slice sz x lo hi) K Kp = rbind (aop tm hp (.slice sz x lo hi)) K) ∧
    (∀ (P : Program) (tm : Tm) (hp : Hp) (K : LV → Hp → Prop) (Kp : Value → Hp → Prop) (off : Nat) (x : Od), aop1 P tm hp (.faddr off x) K Kp = rbind (aop tm hp (.faddr off x)) K) ∧
    (∀ (P : Program) (tm : Tm) (hp : Hp) (K : LV → Hp → Prop) (Kp : Value → Hp → Prop) (sz : Nat) (x i : Od), aop1 P tm hp (.iaddr sz x i) K Kp = rbind (aop tm hp (.iaddr sz x i)) K) ∧
    (∀ (P : Program) (tm : Tm) (hp : Hp) (K : LV → Hp → Prop) (Kp : Value → Hp → Prop) (x i : Od), aop1 P tm hp (.sindex x i) K Kp = rbind (aop tm hp (.sindex x i)) K) ∧
    (∀ (P : Program) (tm : Tm) (hp : Hp) (K : LV → Hp → Prop) (Kp : Value → Hp → Prop) (x : Od), aop1 P tm hp (.srange x) K Kp = rbind (aop tm hp (.srange x)) K) ∧
    (∀ (P : Program) (tm : Tm) (hp : Hp) (K : LV → Hp → Prop) (Kp : Value → Hp → Prop) (x : Od), aop1 P tm hp (.snext x) K Kp = rbind (aop tm hp (.snext x)) K) ∧
    (∀ (P : Program) (tm : Tm) (hp : Hp) (K : LV → Hp → Prop) (Kp : Value → Hp → Prop) (x : Od) (i : Nat), aop1 P tm hp (.extract x i) K Kp = rbind (aop tm hp (.extract x i)) K) ∧
    (∀ (P : Program) (tm : Tm) (hp : Hp) (K : LV → Hp → Prop) (Kp : Value → Hp → Prop) (x : Od), aop1 P tm hp (.slen x) K Kp = rbind (aop tm hp (.slen x)) K) ∧
    (∀ (P : Program) (tm : Tm) (hp : Hp) (K : LV → Hp → Prop) (Kp : Value → Hp → Prop) (x y : Od), aop1 P tm hp (.min x y) K Kp = rbind (aop tm hp (.min x y)) K) ∧
    (∀ (P : Program) (tm : Tm) (hp : Hp) (K : LV → Hp → Prop) (Kp : Value → Hp → Prop) (x y : Od), aop1 P tm hp (.max x y) K Kp = rbind (aop tm hp (.max x y)) K) ∧
    (∀ (P : Program) (tm : Tm) (hp : Hp) (K : LV → Hp → Prop) (Kp : Value → Hp → Prop) (neg : Bool) (ks : List Nat) (x y : Od), aop1 P tm hp (.bins neg ks x y) K Kp = rbind (aop tm hp (.bins neg ks x y)) K) ∧
    (∀ (P : Program) (tm : Tm) (hp : Hp) (K : LV → Hp → Prop) (Kp : Value → Hp → Prop) (sz : Nat) (zero : List Value) (x : Od), aop1 P tm hp (.clear sz zero x) K Kp = rbind (aop tm hp (.clear sz zero x)) K) ∧
    (∀ (P : Program) (tm : Tm) (hp : Hp) (K : LV → Hp → Prop) (Kp : Value → Hp → Prop) (ifc neg : Bool) (x : Od), aop1 P tm hp (.isnil ifc neg x) K Kp = rbind (aop tm hp (.isnil ifc neg x)) K) ∧
    (∀ (P : Program) (tm : Tm) (hp : Hp) (K : LV → Hp → Prop) (Kp : Value → Hp → Prop) (x : Od), aop1 P tm hp (.capn x) K Kp = rbind (aop tm hp (.capn x)) K) ∧
    (∀ (P : Program) (tm : Tm) (hp : Hp) (K : LV → Hp → Prop) (Kp : Value → Hp → Prop) (sz bytes : Nat) (zero : List Value) (x n : Od), aop1 P tm hp (.appn sz bytes zero x n) K Kp = rbind (aop tm hp (.appn sz bytes zero x n)) K) ∧
    (∀ (P : Program) (tm : Tm) (hp : Hp) (K : LV → Hp → Prop) (Kp : Value → Hp → Prop) (sz bytes : Nat) (zero : List Value) (x y : Od), aop1 P tm hp (.append sz bytes zero x y) K Kp = rbind (aop tm hp (.append sz bytes zero x y)) K) := by
  refine ⟨?_, ?_, ?_, ?_, ?_, ?_, ?_, ?_, ?_, ?_, ?_, ?_, ?_, ?_, ?_, ?_, ?_, ?_, ?_, ?_, ?_, ?_, ?_, ?_, ?_, ?_, ?_, ?_, ?_, ?_, ?_, ?_, ?_, ?_, ?_, ?_⟩ <;> intros <;> exact aop1_plain _ _ _ _ _ rfl rfl
theorem dop1_all :
    (∀ (P : Program) (tm : Tm) (hp : Hp) (w : Bool) (K : LV → Hp → Prop) (x : Od), dop1 P tm hp w (.mov x) K = rbind (aop tm hp (.mov x)) K) ∧
    (∀ (P : Program) (tm : Tm) (hp : Hp) (w : Bool) (K : LV → Hp → Prop) (c a b : Od), dop1 P tm hp w (.pick c a b) K = rbind (aop tm hp (.pick c a b)) K) ∧
    (∀ (P : Program) (tm : Tm) (hp : Hp) (w : Bool) (K : LV → Hp → Prop) (zero : List Value), dop1 P tm hp w (.alloc zero) K = rbind (aop tm hp (.alloc zero)) K) ∧
    (∀ (P : Program) (tm : Tm) (hp : Hp) (w : Bool) (K : LV → Hp → Prop) (imm : Bool) (sz : Nat) (x : Od), dop1 P tm hp w (.box imm sz x) K = rbind (aop tm hp (.box imm sz x)) K) ∧
    (∀ (P : Program) (tm : Tm) (hp : Hp) (w : Bool) (K : LV → Hp → Prop) (zero : List Value) (parts : List (Nat × Nat × Od)), dop1 P tm hp w (.build zero parts) K = rbind (aop tm hp (.build zero parts)) K) ∧
    (∀ (P : Program) (tm : Tm) (hp : Hp) (w : Bool) (K : LV → Hp → Prop) (imm : Bool) (sz : Nat) (xs : List Od), dop1 P tm hp w (.bslice imm sz xs) K = rbind (aop tm hp (.bslice imm sz xs)) K) ∧
    (∀ (P : Program) (tm : Tm) (hp : Hp) (w : Bool) (K : LV → Hp → Prop) (agg : Bool) (sz : Nat) (a : Od), dop1 P tm hp w (.load agg sz a) K = rbind (aop tm hp (.load agg sz a)) K) ∧
    (∀ (P : Program) (tm : Tm) (hp : Hp) (w : Bool) (K : LV → Hp → Prop) (sz : Nat) (a v : Od), dop1 P tm hp w (.store sz a v) K = rbind (aop tm hp (.store sz a v)) K) ∧
    (∀ (P : Program) (tm : Tm) (hp : Hp) (w : Bool) (K : LV → Hp → Prop) (x : Od), dop1 P tm hp w (.nilc x) K = rbind (aop tm hp (.nilc x)) K) ∧
    (∀ (P : Program) (tm : Tm) (hp : Hp) (w : Bool) (K : LV → Hp → Prop) (op : BinOp) (x y : Od), dop1 P tm hp w (.bin op x y) K = rbind (aop tm hp (.bin op x y)) K) ∧
    (∀ (P : Program) (tm : Tm) (hp : Hp) (w : Bool) (K : LV → Hp → Prop) (op : BinOp) (x y : Od), dop1 P tm hp w (.binb op x y) K = rbind (aop tm hp (.binb op x y)) K) ∧
    (∀ (P : Program) (tm : Tm) (hp : Hp) (w : Bool) (K : LV → Hp → Prop) (x : Od), dop1 P tm hp w (.not x) K = rbind (aop tm hp (.not x)) K) ∧
    (∀ (P : Program) (tm : Tm) (hp : Hp) (w : Bool) (K : LV → Hp → Prop) (x : Od), dop1 P tm hp w (.neg x) K = rbind (aop tm hp (.neg x)) K) ∧
    (∀ (P : Program) (tm : Tm) (hp : Hp) (w : Bool) (K : LV → Hp → Prop) (ik : IntKind) (x : Od), dop1 P tm hp w (.iconv ik x) K = rbind (aop tm hp (.iconv ik x)) K) ∧
    (∀ (P : Program) (tm : Tm) (hp : Hp) (w : Bool) (K : LV → Hp → Prop) (x : Od), dop1 P tm hp w (.i2s x) K = rbind (aop tm hp (.i2s x)) K) ∧
    (∀ (P : Program) (tm : Tm) (hp : Hp) (w : Bool) (K : LV → Hp → Prop) (x : Od), dop1 P tm hp w (.s2s x) K = rbind (aop tm hp (.s2s x)) K) ∧
    (∀ (P : Program) (tm : Tm) (hp : Hp) (w : Bool) (K : LV → Hp → Prop) (x : Od), dop1 P tm hp w (.b2s x) K = rbind (aop tm hp (.b2s x)) K) ∧
    (∀ (P : Program) (tm : Tm) (hp : Hp) (w : Bool) (K : LV → Hp → Prop) (t : TypeId) (x : Od), dop1 P tm hp w (.mkif t x) K = rbind (aop tm hp (.mkif t x)) K) ∧
    (∀ (P : Program) (tm : Tm) (hp : Hp) (w : Bool) (K : LV → Hp → Prop) (f : Fn) (caps : List Od), dop1 P tm hp w (.mkfn f caps) K = rbind (aop tm hp (.mkfn f caps)) K) ∧
    (∀ (P : Program) (tm : Tm) (hp : Hp) (w : Bool) (K : LV → Hp → Prop) (x : Od) (lo hi : Option Od), dop1 P tm hp w (.sslice x lo hi) K = rbind (aop tm hp (.sslice x lo hi)) K) ∧
    (∀ (P : Program) (tm : Tm) (hp : Hp) (w : Bool) (K : LV → Hp → Prop) (sz : Nat) (x : Od) (lo hi : Option Od), dop1 P tm hp w (.slice sz x lo hi) K = rbind (aop tm hp (.slice sz x lo hi)) K) ∧
    (∀ (P : Program) (tm : Tm) (hp : Hp) (w : Bool) (K : LV → Hp → Prop) (off : Nat) (x : Od), dop1 P tm hp w (.faddr off x) K = rbind (aop tm hp (.faddr off x)) K) ∧
    (∀ (P : Program) (tm : Tm) (hp : Hp) (w : Bool) (K : LV → Hp → Prop) (sz : Nat) (x i : Od), dop1 P tm hp w (.iaddr sz x i) K = rbind (aop tm hp (.iaddr sz x i)) K) ∧
    (∀ (P : Program) (tm : Tm) (hp : Hp) (w : Bool) (K : LV → Hp → Prop) (x i : Od), dop1 P tm hp w (.sindex x i) K = rbind (aop tm hp (.sindex x i)) K) ∧
    (∀ (P : Program) (tm : Tm) (hp : Hp) (w : Bool) (K : LV → Hp → Prop) (x : Od), dop1 P tm hp w (.srange x) K = rbind (aop tm hp (.srange x)) K) ∧
    (∀ (P : Program) (tm : Tm) (hp : Hp) (w : Bool) (K : LV → Hp → Prop) (x : Od), dop1 P tm hp w (.snext x) K = rbind (aop tm hp (.snext x)) K) ∧
    (∀ (P : Program) (tm : Tm) (hp : Hp) (w : Bool) (K : LV → Hp → Prop) (x : Od) (i : Nat), dop1 P tm hp w (.extract x i) K = rbind (aop tm hp (.extract x i)) K) ∧
    (∀ (P : Program) (tm : Tm) (hp : Hp) (w : Bool) (K : LV → Hp → Prop) (x : Od), dop1 P tm hp w (.slen x) K = rbind (aop tm hp (.slen x)) K) ∧
    (∀ (P : Program) (tm : Tm) (hp : Hp) (w : Bool) (K : LV → Hp → Prop) (x y : Od), dop1 P tm hp w (.min x y) K = rbind (aop tm hp (.min x y)) K) ∧
    (∀ (P : Program) (tm : Tm) (hp : Hp) (w : Bool) (K : LV → Hp → Prop) (x y : Od), dop1 P tm hp w (.max x y) K = rbind (aop tm hp (.max x y)) K) ∧
    (∀ (P : Program) (tm : Tm) (hp : Hp) (w : Bool) (K : LV → Hp → Prop) (neg : Bool) (ks : List Nat) (x y : Od), dop1 P tm hp w (.bins neg ks x y) K = rbind (aop tm hp (.bins neg ks x y)) K) ∧
    (∀ (P : Program) (tm : Tm) (hp : Hp) (w : Bool) (K : LV → Hp → Prop) (sz : Nat) (zero : List Value) (x : Od), dop1 P tm hp w (.clear sz zero x) K = rbind (aop tm hp (.clear sz zero x)) K) ∧
    (∀ (P : Program) (tm : Tm) (hp : Hp) (w : Bool) (K : LV → Hp → Prop) (ifc neg : Bool) (x : Od), dop1 P tm hp w (.isnil ifc neg x) K = rbind (aop tm hp (.isnil ifc neg x)) K) ∧
    (∀ (P : Program) (tm : Tm) (hp : Hp) (w : Bool) (K : LV → Hp → Prop) (x : Od), dop1 P tm hp w (.capn x) K = rbind (aop tm hp (.capn x)) K) ∧
    (∀ (P : Program) (tm : Tm) (hp : Hp) (w : Bool) (K : LV → Hp → Prop) (sz bytes : Nat) (zero : List Value) (x n : Od), dop1 P tm hp w (.appn sz bytes zero x n) K = rbind (aop tm hp (.appn sz bytes zero x n)) K) ∧
    (∀ (P : Program) (tm : Tm) (hp : Hp) (w : Bool) (K : LV → Hp → Prop) (sz bytes : Nat) (zero : List Value) (x y : Od), dop1 P tm hp w (.append sz bytes zero x y) K = rbind (aop tm hp (.append sz bytes zero x y)) K) := by
  refine ⟨?_, ?_, ?_, ?_, ?_, ?_, ?_, ?_, ?_, ?_, ?_, ?_, ?_, ?_, ?_, ?_, ?_, ?_, ?_, ?_, ?_, ?_, ?_, ?_, ?_, ?_, ?_, ?_, ?_, ?_, ?_, ?_, ?_, ?_, ?_, ?_⟩ <;> intros <;> exact dop1_plain _ _ _ _ _ rfl rfl
theorem ggo_all :
    (∀ (P : Program) (tm : Tm) (hp : Hp) (Kp : Value → Hp → Prop) (hs : List (Nat × Hp)) (ps : List Pd) (ix : Nat) (next : List (Nat × Hp) → List Pd → Nat → Tm → Hp → Prop) (d : Option Nat) (g : Option (Nat × Bool)) (w : Bool) (ub ua : List Nat) (sv sp : Bool) (x : Od), ggo P ⟨⟨d, .mov x, g⟩, w, false, ub, ua, sv, sp⟩ hs ps ix tm hp next Kp = rbind (aop tm hp (.mov x)) (ggK P ⟨⟨d, .mov x, g⟩, w, false, ub, ua, sv, sp⟩ hs ps ix tm hp next)) ∧
    (∀ (P : Program) (tm : Tm) (hp : Hp) (Kp : Value → Hp → Prop) (hs : List (Nat × Hp)) (ps : List Pd) (ix : Nat) (next : List (Nat × Hp) → List Pd → Nat → Tm → Hp → Prop) (d : Option Nat) (g : Option (Nat × Bool)) (w : Bool) (ub ua : List Nat) (sv sp : Bool) (c a b : Od), ggo P ⟨⟨d, .pick c a b, g⟩, w, false, ub, ua, sv, sp⟩ hs ps ix tm hp next Kp = rbind (aop tm hp (.pick c a b)) (ggK P ⟨⟨d, .pick c a b, g⟩, w, false, ub, ua, sv, sp⟩ hs ps ix tm hp next)) ∧
    (∀ (P : Program) (tm : Tm) (hp : Hp) (Kp : Value → Hp → Prop) (hs : List (Nat × Hp)) (ps : List Pd) (ix : Nat) (next : List (Nat × Hp) → List Pd → Nat → Tm → Hp → Prop) (d : Option Nat) (g : Option (Nat × Bool)) (w : Bool) (ub ua : List Nat) (sv sp : Bool) (zero : List Value), ggo P ⟨⟨d, .alloc zero, g⟩, w, false, ub, ua, sv, sp⟩ hs ps ix tm hp next Kp = rbind (aop tm hp (.alloc zero)) (ggK P ⟨⟨d, .alloc zero, g⟩, w, false, ub, ua, sv, sp⟩ hs ps ix tm hp next)) ∧
    (∀ (P : Program) (tm : Tm) (hp : Hp) (Kp : Value → Hp → Prop) (hs : List (Nat × Hp)) (ps : List Pd) (ix : Nat) (next : List (Nat × Hp) → List Pd → Nat → Tm → Hp → Prop) (d : Option Nat) (g : Option (Nat × Bool)) (w : Bool) (ub ua : List Nat) (sv sp : Bool) (imm : Bool) (sz : Nat) (x : Od), ggo P ⟨⟨d, .box imm sz x, g⟩, w, false, ub, ua, sv, sp⟩ hs ps ix tm hp next Kp = rbind (aop tm hp (.box imm sz x)) (ggK P ⟨⟨d, .box imm sz x, g⟩, w, false, ub, ua, sv, sp⟩ hs ps ix tm hp next)) ∧
    (∀ (P : Program) (tm : Tm) (hp : Hp) (Kp : Value → Hp → Prop) (hs : List (Nat × Hp)) (ps : List Pd) (ix : Nat) (next : List (Nat × Hp) → List Pd → Nat → Tm → Hp → Prop) (d : Option Nat) (g : Option (Nat × Bool)) (w : Bool) (ub ua : List Nat) (sv sp : Bool) (zero : List Value) (parts : List (Nat × Nat × Od)), ggo P ⟨⟨d, .build zero parts, g⟩, w, false, ub, ua, sv, sp⟩ hs ps ix tm hp next Kp = rbind (aop tm hp (.build zero parts)) (ggK P ⟨⟨d, .build zero parts, g⟩, w, false, ub, ua, sv, sp⟩ hs ps ix tm hp next)) ∧
    (∀ (P : Program) (tm : Tm) (hp : Hp) (Kp : Value → Hp → Prop) (hs : List (Nat × Hp)) (ps : List Pd) (ix : Nat) (next : List (Nat × Hp) → List Pd → Nat → Tm → Hp → Prop) (d : Option Nat) (g : Option (Nat × Bool)) (w : Bool) (ub ua : List Nat) (sv sp : Bool) (imm : Bool) (sz : Nat) (xs : List Od), ggo P ⟨⟨d, .bslice imm sz xs, g⟩, w, false, ub, ua, sv, sp⟩ hs ps ix tm hp next Kp = rbind (aop tm hp (.bslice imm sz xs)) (ggK P ⟨⟨d, .bslice imm sz xs, g⟩, w, false, ub, ua, sv, sp⟩ hs ps ix tm hp next)) ∧
    (∀ (P : Program) (tm : Tm) (hp : Hp) (Kp : Value → Hp → Prop) (hs : List (Nat × Hp)) (ps : List Pd) (ix : Nat) (next : List (Nat × Hp) → List Pd → Nat → Tm → Hp → Prop) (d : Option Nat) (g : Option (Nat × Bool)) (w : Bool) (ub ua : List Nat) (sv sp : Bool) (agg : Bool) (sz : Nat) (a : Od), ggo P ⟨⟨d, .load agg sz a, g⟩, w, false, ub, ua, sv, sp⟩ hs ps ix tm hp next Kp = rbind (aop tm hp (.load agg sz a)) (ggK P ⟨⟨d, .load agg sz a, g⟩, w, false, ub, ua, sv, sp⟩ hs ps ix tm hp next)) ∧
    (∀ (P : Program) (tm : Tm) (hp : Hp) (Kp : Value → Hp → Prop) (hs : List (Nat × Hp)) (ps : List Pd) (ix : Nat) (next : List (Nat × Hp) → List Pd → Nat → Tm → Hp → Prop) (d : Option Nat) (g : Option (Nat × Bool)) (w : Bool) (ub ua : List Nat) (sv sp : Bool) (sz : Nat) (a v : Od), ggo P ⟨⟨d, .store sz a v, g⟩, w, false, ub, ua, sv, sp⟩ hs ps ix tm hp next Kp = rbind (aop tm hp (.store sz a v)) (ggK P ⟨⟨d, .store sz a v, g⟩, w, false, ub, ua, sv, sp⟩ hs ps ix tm hp next)) ∧
    (∀ (P : Program) (tm : Tm) (hp : Hp) (Kp : Value → Hp → Prop) (hs : List (Nat × Hp)) (ps : List Pd) (ix : Nat) (next : List (Nat × Hp) → List Pd → Nat → Tm → Hp → Prop) (d : Option Nat) (g : Option (Nat × Bool)) (w : Bool) (ub ua : List Nat) (sv sp : Bool) (x : Od), ggo P ⟨⟨d, .nilc x, g⟩, w, false, ub, ua, sv, sp⟩ hs ps ix tm hp next Kp = rbind (aop tm hp (.nilc x)) (ggK P ⟨⟨d, .nilc x, g⟩, w, false, ub, ua, sv, sp⟩ hs ps ix tm hp next)) ∧
    (∀ (P : Program) (tm : Tm) (hp : Hp) (Kp : Value → Hp → Prop) (hs : List (Nat × Hp)) (ps : List Pd) (ix : Nat) (next : List (Nat × Hp) → List Pd → Nat → Tm → Hp → Prop) (d : Option Nat) (g : Option (Nat × Bool)) (w : Bool) (ub ua : List Nat) (sv sp : Bool) (op : BinOp) (x y : Od), ggo P ⟨⟨d, .bin op x y, g⟩, w, false, ub, ua, sv, sp⟩ hs ps ix tm hp next Kp = rbind (aop tm hp (.bin op x y)) (ggK P ⟨⟨d, .bin op x y, g⟩, w, false, ub, ua, sv, sp⟩ hs ps ix tm hp next)) ∧
    (∀ (P : Program) (tm : Tm) (hp : Hp) (Kp : Value → Hp → Prop) (hs : List (Nat × Hp)) (ps : List Pd) (ix : Nat) (next : List (Nat × Hp) → List Pd → Nat → Tm → Hp → Prop) (d : Option Nat) (g : Option (Nat × Bool)) (w : Bool) (ub ua : List Nat) (sv sp : Bool) (op : BinOp) (x y : Od), ggo P ⟨⟨d, .binb op x y, g⟩, w, false, ub, ua, sv, sp⟩ hs ps ix tm hp next Kp = rbind (aop tm hp (.binb op x y)) (ggK P ⟨⟨d, .binb op x y, g⟩, w, false, ub, ua, sv, sp⟩ hs ps ix tm hp next)) ∧
    (∀ (P : Program) (tm : Tm) (hp : Hp) (Kp : Value → Hp → Prop) (hs : List (Nat × Hp)) (ps : List Pd) (ix : Nat) (next : List (Nat × Hp) → List Pd → Nat → Tm → Hp → Prop) (d : Option Nat) (g : Option (Nat × Bool)) (w : Bool) (ub ua : List Nat) (sv sp : Bool) (x : Od), ggo P ⟨⟨d, .not x, g⟩, w, false, ub, ua, sv, sp⟩ hs ps ix tm hp next Kp = rbind (aop tm hp (.not x)) (ggK P ⟨⟨d, .not x, g⟩, w, false, ub, ua, sv, sp⟩ hs ps ix tm hp next)) ∧
    (∀ (P : Program) (tm : Tm) (hp : Hp) (Kp : Value → Hp → Prop) (hs : List (Nat × Hp)) (ps : List Pd) (ix : Nat) (next : List (Nat × Hp) → List Pd → Nat → Tm → Hp → Prop) (d : Option Nat) (g : Option (Nat × Bool)) (w : Bool) (ub ua : List Nat) (sv sp : Bool) (x : Od), ggo P ⟨⟨d, .neg x, g⟩, w, false, ub, ua, sv, sp⟩ hs ps ix tm hp next Kp = rbind (aop tm hp (.neg x)) (ggK P ⟨⟨d, .neg x, g⟩, w, false, ub, ua, sv, sp⟩ hs ps ix tm hp next)) ∧
    (∀ (P : Program) (tm : Tm) (hp : Hp) (Kp : Value → Hp → Prop) (hs : List (Nat × Hp)) (ps : List Pd) (ix : Nat) (next : List (Nat × Hp) → List Pd → Nat → Tm → Hp → Prop) (d : Option Nat) (g : Option (Nat × Bool)) (w : Bool) (ub ua : List Nat) (sv sp : Bool) (ik : IntKind) (x : Od), ggo P ⟨⟨d, .iconv ik x, g⟩, w, false, ub, ua, sv, sp⟩ hs ps ix tm hp next Kp = rbind (aop tm hp (.iconv ik x)) (ggK P ⟨⟨d, .iconv ik x, g⟩, w, false, ub, ua, sv, sp⟩ hs ps ix tm hp next)) ∧
    (∀ (P : Program) (tm : Tm) (hp : Hp) (Kp : Value → Hp → Prop) (hs : List (Nat × Hp)) (ps : List Pd) (ix : Nat) (next : List (Nat × Hp) → List Pd → Nat → Tm → Hp → Prop) (d : Option Nat) (g : Option (Nat × Bool)) (w : Bool) (ub ua : List Nat) (sv sp : Bool) (x : Od), ggo P ⟨⟨d, .i2s x, g⟩, w, false, ub, ua, sv, sp⟩ hs ps ix tm hp next Kp = rbind (aop tm hp (.i2s x)) (ggK P ⟨⟨d, .i2s x, g⟩, w, false, ub, ua, sv, sp⟩ hs ps ix tm hp next)) ∧
    (∀ (P : Program) (tm : Tm) (hp : Hp) (Kp : Value → Hp → Prop) (hs : List (Nat × Hp)) (ps : List Pd) (ix : Nat) (next : List (Nat × Hp) → List Pd → Nat → Tm → Hp → Prop) (d : Option Nat) (g : Option (Nat × Bool)) (w : Bool) (ub ua : List Nat) (sv sp : Bool) (x : Od), ggo P ⟨⟨d, .s2s x, g⟩, w, false, ub, ua, sv, sp⟩ hs ps ix tm hp next Kp = rbind (aop tm hp (.s2s x)) (ggK P ⟨⟨d, .s2s x, g⟩, w, false, ub, ua, sv, sp⟩ hs ps ix tm hp next)) ∧
    (∀ (P : Program) (tm : Tm) (hp : Hp) (Kp : Value → Hp → Prop) (hs : List (Nat × Hp)) (ps : List Pd) (ix : Nat) (next : List (Nat × Hp) → List Pd → Nat → Tm → Hp → Prop) (d : Option Nat) (g : Option (Nat × Bool)) (w : Bool) (ub ua : List Nat) (sv sp : Bool) (x : Od), ggo P ⟨⟨d, .b2s x, g⟩, w, false, ub, ua, sv, sp⟩ hs ps ix tm hp next Kp = rbind (aop tm hp (.b2s x)) (ggK P ⟨⟨d, .b2s x, g⟩, w, false, ub, ua, sv, sp⟩ hs ps ix tm hp next)) ∧
    (∀ (P : Program) (tm : Tm) (hp : Hp) (Kp : Value → Hp → Prop) (hs : List (Nat × Hp)) (ps : List Pd) (ix : Nat) (next : List (Nat × Hp) → List Pd → Nat → Tm → Hp → Prop) (d : Option Nat) (g : Option (Nat × Bool)) (w : Bool) (ub ua : List Nat) (sv sp : Bool) (t : TypeId) (x : Od), ggo P ⟨⟨d, .mkif t x, g⟩, w, false, ub, ua, sv, sp⟩ hs ps ix tm hp next Kp = rbind (aop tm hp (.mkif t x)) (ggK P ⟨⟨d, .mkif t x, g⟩, w, false, ub, ua, sv, sp⟩ hs ps ix tm hp next)) ∧
    (∀ (P : Program) (tm : Tm) (hp : Hp) (Kp : Value → Hp → Prop) (hs : List (Nat × Hp)) (ps : List Pd) (ix : Nat) (next : List (Nat × Hp) → List Pd → Nat → Tm → Hp → Prop) (d : Option Nat) (g : Option (Nat × Bool)) (w : Bool) (ub ua : List Nat) (sv sp : Bool) (f : Fn) (caps : List Od), ggo P ⟨⟨d, .mkfn f caps, g⟩, w, false, ub, ua, sv, sp⟩ hs ps ix tm hp next Kp = rbind (aop tm hp (.mkfn f caps)) (ggK P ⟨⟨d, .mkfn f caps, g⟩, w, false, ub, ua, sv, sp⟩ hs ps ix tm hp next)) ∧
    (∀ (P : Program) (tm : Tm) (hp : Hp) (Kp : Value → Hp → Prop) (hs : List (Nat × Hp)) (ps : List Pd) (ix : Nat) (next : List (Nat × Hp) → List Pd → Nat → Tm → Hp → Prop) (d : Option Nat) (g : Option (Nat × Bool)) (w : Bool) (ub ua : List Nat) (sv sp : Bool) (x : Od) (lo hi : Option Od), ggo P ⟨⟨d, .sslice x lo hi, g⟩, w, false, ub, ua, sv, sp⟩ hs ps ix tm hp next Kp = rbind (aop tm hp (.sslice x lo hi)) (ggK P ⟨⟨d, .sslice x lo hi, g⟩, w, false, ub, ua, sv, sp⟩ hs ps ix tm hp next)) ∧
    (∀ (P : Program) (tm : Tm) (hp : Hp) (Kp : Value → Hp → Prop) (hs : List (Nat × Hp)) (ps : List Pd) (ix : Nat) (next : List (Nat × Hp) → List Pd → Nat → Tm → Hp → Prop) (d : Option Nat) (g : Option (Nat × Bool)) (w : Bool) (ub ua : List Nat) (sv sp : Bool) (sz : Nat) (x : Od) (lo hi : Option Od), ggo P ⟨⟨d, .slice sz x lo hi, g⟩, w, false, ub, ua, sv, sp⟩ hs ps ix tm hp next Kp = rbind (aop tm hp (.slice sz x lo hi)) (ggK P ⟨⟨d, .slice sz x lo hi, g⟩, w, false, ub, ua, sv, sp⟩ hs ps ix tm hp next)) ∧
    (∀ (P : Program) (tm : Tm) (hp : Hp) (Kp : Value → Hp → Prop) (hs : List (Nat × Hp)) (ps : List Pd) (ix : Nat) (next : List (Nat × Hp) → List Pd → Nat → Tm → Hp → Prop) (d : Option Nat) (g : Option (Nat × Bool)) (w : Bool) (ub ua : List Nat) (sv sp : Bool) (off : Nat) (x : Od), ggo P ⟨⟨d, .faddr off x, g⟩, w, false, ub, ua, sv, sp⟩ hs ps ix tm hp next Kp = rbind (aop tm hp (.faddr off x)) (ggK P ⟨⟨d, .faddr off x, g⟩, w, false, ub, ua, sv, sp⟩ hs ps ix tm hp next)) ∧
    (∀ (P : Program) (tm : Tm) (hp : Hp) (Kp : Value → Hp → Prop) (hs : List (Nat × Hp)) (ps : List Pd) (ix : Nat) (next : List (Nat × Hp) → List Pd → Nat → Tm → Hp → Prop) (d : Option Nat) (g : Option (Nat × Bool)) (w : Bool) (ub ua : List Nat) (sv sp : Bool) (sz : Nat) (x i : Od), ggo P ⟨⟨d, .iaddr sz x i, g⟩, w, false, ub, ua, sv, sp⟩ hs ps ix tm hp next Kp = rbind (aop tm hp (.iaddr sz x i)) (ggK P ⟨⟨d, .iaddr sz x i, g⟩, w, false, ub, ua, sv, sp⟩ hs ps ix tm hp next)) ∧
    (∀ (P : Program) (tm : Tm) (hp : Hp) (Kp : Value → Hp → Prop) (hs : List (Nat × Hp)) (ps : List Pd) (ix : Nat) (next : List (Nat × Hp) → List Pd → Nat → Tm → Hp → Prop) (d : Option Nat) (g : Option (Nat × Bool)) (w : Bool) (ub ua : List Nat) (sv sp : Bool) (x i : Od), ggo P ⟨⟨d, .sindex x i, g⟩, w, false, ub, ua, sv, sp⟩ hs ps ix tm hp next Kp = rbind (aop tm hp (.sindex x i)) (ggK P ⟨⟨d, .sindex x i, g⟩, w, false, ub, ua, sv, sp⟩ hs ps ix tm hp next)) ∧
    (∀ (P : Program) (tm : Tm) (hp : Hp) (Kp : Value → Hp → Prop) (hs : List (Nat × Hp)) (ps : List Pd) (ix : Nat) (next : List (Nat × Hp) → List Pd → Nat → Tm → Hp → Prop) (d : Option Nat) (g : Option (Nat × Bool)) (w : Bool) (ub ua : List Nat) (sv sp : Bool) (x : Od), ggo P ⟨⟨d, .srange x, g⟩, w, false, ub, ua, sv, sp⟩ hs ps ix tm hp next Kp = rbind (aop tm hp (.srange x)) (ggK P ⟨⟨d, .srange x, g⟩, w, false, ub, ua, sv, sp⟩ hs ps ix tm hp next)) ∧
    (∀ (P : Program) (tm : Tm) (hp : Hp) (Kp : Value → Hp → Prop) (hs : List (Nat × Hp)) (ps : List Pd) (ix : Nat) (next : List (Nat × Hp) → List Pd → Nat → Tm → Hp → Prop) (d : Option Nat) (g : Option (Nat × Bool)) (w : Bool) (ub ua : List Nat) (sv sp : Bool) (x : Od), ggo P ⟨⟨d, .snext x, g⟩, w, false, ub, ua, sv, sp⟩ hs ps ix tm hp next Kp = rbind (aop tm hp (.snext x)) (ggK P ⟨⟨d, .snext x, g⟩, w, false, ub, ua, sv, sp⟩ hs ps ix tm hp next)) ∧
    (∀ (P : Program) (tm : Tm) (hp : Hp) (Kp : Value → Hp → Prop) (hs : List (Nat × Hp)) (ps : List Pd) (ix : Nat) (next : List (Nat × Hp) → List Pd → Nat → Tm → Hp → Prop) (d : Option Nat) (g : Option (Nat × Bool)) (w : Bool) (ub ua : List Nat) (sv sp : Bool) (x : Od) (i : Nat), ggo P ⟨⟨d, .extract x i, g⟩, w, false, ub, ua, sv, sp⟩ hs ps ix tm hp next Kp = rbind (aop tm hp (.extract x i)) (ggK P ⟨⟨d, .extract x i, g⟩, w, false, ub, ua, sv, sp⟩ hs ps ix tm hp next)) ∧
    (∀ (P : Program) (tm : Tm) (hp : Hp) (Kp : Value → Hp → Prop) (hs : List (Nat × Hp)) (ps : List Pd) (ix : Nat) (next : List (Nat × Hp) → List Pd → Nat → Tm → Hp → Prop) (d : Option Nat) (g : Option (Nat × Bool)) (w : Bool) (ub ua : List Nat) (sv sp : Bool) (x : Od), ggo P ⟨⟨d, .len x, g⟩, w, false, ub, ua, sv, sp⟩ hs ps ix tm hp next Kp = rbind (aop tm hp (.len x)) (ggK P ⟨⟨d, .len x, g⟩, w, false, ub, ua, sv, sp⟩ hs ps ix tm hp next)) ∧
    (∀ (P : Program) (tm : Tm) (hp : Hp) (Kp : Value → Hp → Prop) (hs : List (Nat × Hp)) (ps : List Pd) (ix : Nat) (next : List (Nat × Hp) → List Pd → Nat → Tm → Hp → Prop) (d : Option Nat) (g : Option (Nat × Bool)) (w : Bool) (ub ua : List Nat) (sv sp : Bool) (x : Od), ggo P ⟨⟨d, .slen x, g⟩, w, false, ub, ua, sv, sp⟩ hs ps ix tm hp next Kp = rbind (aop tm hp (.slen x)) (ggK P ⟨⟨d, .slen x, g⟩, w, false, ub, ua, sv, sp⟩ hs ps ix tm hp next)) ∧
    (∀ (P : Program) (tm : Tm) (hp : Hp) (Kp : Value → Hp → Prop) (hs : List (Nat × Hp)) (ps : List Pd) (ix : Nat) (next : List (Nat × Hp) → List Pd → Nat → Tm → Hp → Prop) (d : Option Nat) (g : Option (Nat × Bool)) (w : Bool) (ub ua : List Nat) (sv sp : Bool) (x y : Od), ggo P ⟨⟨d, .min x y, g⟩, w, false, ub, ua, sv, sp⟩ hs ps ix tm hp next Kp = rbind (aop tm hp (.min x y)) (ggK P ⟨⟨d, .min x y, g⟩, w, false, ub, ua, sv, sp⟩ hs ps ix tm hp next)) ∧
    (∀ (P : Program) (tm : Tm) (hp : Hp) (Kp : Value → Hp → Prop) (hs : List (Nat × Hp)) (ps : List Pd) (ix : Nat) (next : List (Nat × Hp) → List Pd → Nat → Tm → Hp → Prop) (d : Option Nat) (g : Option (Nat × Bool)) (w : Bool) (ub ua : List Nat) (sv sp : Bool) (x y : Od), ggo P ⟨⟨d, .max x y, g⟩, w, false, ub, ua, sv, sp⟩ hs ps ix tm hp next Kp = rbind (aop tm hp (.max x y)) (ggK P ⟨⟨d, .max x y, g⟩, w, false, ub, ua, sv, sp⟩ hs ps ix tm hp next)) ∧
    (∀ (P : Program) (tm : Tm) (hp : Hp) (Kp : Value → Hp → Prop) (hs : List (Nat × Hp)) (ps : List Pd) (ix : Nat) (next : List (Nat × Hp) → List Pd → Nat → Tm → Hp → Prop) (d : Option Nat) (g : Option (Nat × Bool)) (w : Bool) (ub ua : List Nat) (sv sp : Bool) (neg : Bool) (ks : List Nat) (x y : Od), ggo P ⟨⟨d, .bins neg ks x y, g⟩, w, false, ub, ua, sv, sp⟩ hs ps ix tm hp next Kp = rbind (aop tm hp (.bins neg ks x y)) (ggK P ⟨⟨d, .bins neg ks x y, g⟩, w, false, ub, ua, sv, sp⟩ hs ps ix tm hp next)) ∧
    (∀ (P : Program) (tm : Tm) (hp : Hp) (Kp : Value → Hp → Prop) (hs : List (Nat × Hp)) (ps : List Pd) (ix : Nat) (next : List (Nat × Hp) → List Pd → Nat → Tm → Hp → Prop) (d : Option Nat) (g : Option (Nat × Bool)) (w : Bool) (ub ua : List Nat) (sv sp : Bool) (sz : Nat) (zero : List Value) (x : Od), ggo P ⟨⟨d, .clear sz zero x, g⟩, w, false, ub, ua, sv, sp⟩ hs ps ix tm hp next Kp = rbind (aop tm hp (.clear sz zero x)) (ggK P ⟨⟨d, .clear sz zero x, g⟩, w, false, ub, ua, sv, sp⟩ hs ps ix tm hp next)) ∧
    (∀ (P : Program) (tm : Tm) (hp : Hp) (Kp : Value → Hp → Prop) (hs : List (Nat × Hp)) (ps : List Pd) (ix : Nat) (next : List (Nat × Hp) → List Pd → Nat → Tm → Hp → Prop) (d : Option Nat) (g : Option (Nat × Bool)) (w : Bool) (ub ua : List Nat) (sv sp : Bool) (ifc neg : Bool) (x : Od), ggo P ⟨⟨d, .isnil ifc neg x, g⟩, w, false, ub, ua, sv, sp⟩ hs ps ix tm hp next Kp = rbind (aop tm hp (.isnil ifc neg x)) (ggK P ⟨⟨d, .isnil ifc neg x, g⟩, w, false, ub, ua, sv, sp⟩ hs ps ix tm hp next)) ∧
    (∀ (P : Program) (tm : Tm) (hp : Hp) (Kp : Value → Hp → Prop) (hs : List (Nat × Hp)) (ps : List Pd) (ix : Nat) (next : List (Nat × Hp) → List Pd → Nat → Tm → Hp → Prop) (d : Option Nat) (g : Option (Nat × Bool)) (w : Bool) (ub ua : List Nat) (sv sp : Bool) (x : Od), ggo P ⟨⟨d, .capn x, g⟩, w, false, ub, ua, sv, sp⟩ hs ps ix tm hp next Kp = rbind (aop tm hp (.capn x)) (ggK P ⟨⟨d, .capn x, g⟩, w, false, ub, ua, sv, sp⟩ hs ps ix tm hp next)) ∧
    (∀ (P : Program) (tm : Tm) (hp : Hp) (Kp : Value → Hp → Prop) (hs : List (Nat × Hp)) (ps : List Pd) (ix : Nat) (next : List (Nat × Hp) → List Pd → Nat → Tm → Hp → Prop) (d : Option Nat) (g : Option (Nat × Bool)) (w : Bool) (ub ua : List Nat) (sv sp : Bool) (sz bytes : Nat) (zero : List Value) (x n : Od), ggo P ⟨⟨d, .appn sz bytes zero x n, g⟩, w, false, ub, ua, sv, sp⟩ hs ps ix tm hp next Kp = rbind (aop tm hp (.appn sz bytes zero x n)) (ggK P ⟨⟨d, .appn sz bytes zero x n, g⟩, w, false, ub, ua, sv, sp⟩ hs ps ix tm hp next)) ∧
    (∀ (P : Program) (tm : Tm) (hp : Hp) (Kp : Value → Hp → Prop) (hs : List (Nat × Hp)) (ps : List Pd) (ix : Nat) (next : List (Nat × Hp) → List Pd → Nat → Tm → Hp → Prop) (d : Option Nat) (g : Option (Nat × Bool)) (w : Bool) (ub ua : List Nat) (sv sp : Bool) (sz bytes : Nat) (zero : List Value) (x y : Od), ggo P ⟨⟨d, .append sz bytes zero x y, g⟩, w, false, ub, ua, sv, sp⟩ hs ps ix tm hp next Kp = rbind (aop tm hp (.append sz bytes zero x y)) (ggK P ⟨⟨d, .append sz bytes zero x y, g⟩, w, false, ub, ua, sv, sp⟩ hs ps ix tm hp next)) := by
  refine ⟨?_, ?_, ?_, ?_, ?_, ?_, ?_, ?_, ?_, ?_, ?_, ?_, ?_, ?_, ?_, ?_, ?_, ?_, ?_, ?_, ?_, ?_, ?_, ?_, ?_, ?_, ?_, ?_, ?_, ?_, ?_, ?_, ?_, ?_, ?_, ?_, ?_⟩ <;> intros <;> exact ggo_plain _ _ _ _ _ _ _ _ _ rfl rfl

end Go.Av

