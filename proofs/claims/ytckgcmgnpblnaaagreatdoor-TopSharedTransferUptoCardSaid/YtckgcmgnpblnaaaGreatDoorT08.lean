/- A part of the proof of a law over a given program: Fl, Fn, Pcall, Plan, OpF, Ev2, Ev3, PlanS. -/
import Derived.ScopeJumps
import Derived.Test.YtckgcmgnpblnaaaGreatDoorT07
set_option linter.unusedVariables false
set_option linter.unusedSimpArgs false
/- An order for the operations of a region that asks for it. -/
namespace Go.Ab
open Go.RowKit
/- two values that are the same -/
def addrEq (a b : Addr) : Bool := Nat.beq a.block b.block && (Nat.beq a.off b.off && (match a.spot, b.spot with | none, none => true | _, _ => false))
def oaddrEq : Option Addr → Option Addr → Bool
  | none, none => true
  | some a, some b => addrEq a b
  | _, _ => false
mutual
def veq : Value → Value → Bool
  | .int k a, .int k' b => kindEq k k' && a == b
  | .bool a, .bool b => (bif a then b else !b)
  | .string a, .string b => bytesEq a b
  | .pointer a, .pointer b => oaddrEq a b
  | .slice a n k, .slice b m j => oaddrEq a b && (Nat.beq n m && Nat.beq k j)
  | .map none, .map none => true
  | .map (some a), .map (some b) => Nat.beq a b
  | .iface t v, .iface u w => Nat.beq t u && veq v w
  | .agg ⟨l⟩, .agg ⟨m⟩ => veqL l m
  | .tuple ⟨l⟩, .tuple ⟨m⟩ => veqL l m
  | .func (.func f) ⟨l⟩ ⟨m⟩, .func (.func g) ⟨l'⟩ ⟨m'⟩ => Nat.beq f g && (veqL l l' && veqL m m')
  | .nilFunc, .nilFunc => true
  | .nilIface, .nilIface => true
  | _, _ => false
def veqL : List Value → List Value → Bool
  | [], [] => true
  | a :: l, b :: m => veq a b && veqL l m
  | _, _ => false
end
theorem addrEq_spec {a b : Addr} (h : addrEq a b = true) : a = b := by
  obtain ⟨x, y, z⟩ := a
  obtain ⟨x', y', z'⟩ := b
  simp only [addrEq, Bool.and_eq_true, Nat.beq_eq] at h
  obtain ⟨rfl, rfl, h⟩ := h
  cases z <;> cases z' <;> first | rfl | cases h
theorem oaddrEq_spec {a b : Option Addr} (h : oaddrEq a b = true) : a = b := by
  cases a <;> cases b <;> first | rfl | cases h | exact congrArg some (addrEq_spec h)
mutual
theorem veq_spec : ∀ {a b : Value}, veq a b = true → a = b
  | .int k a, b, h => by
    cases b <;> first | (simp [veq] at h; done) | skip
    simp only [veq, Bool.and_eq_true, beq_iff_eq] at h
    rw [kindEq_spec h.1, h.2]
  | .bool a, b, h => by
    cases b <;> first | (simp [veq] at h; done) | skip
    rename_i b
    cases a <;> cases b <;> first | rfl | cases h
  | .string a, b, h => by
    cases b <;> first | (simp [veq] at h; done) | skip
    simp only [veq] at h
    rw [bytesEq_eq h]
  | .pointer a, b, h => by
    cases b <;> first | (simp [veq] at h; done) | skip
    simp only [veq] at h
    rw [oaddrEq_spec h]
  | .slice a n k, b, h => by
    cases b <;> first | (simp [veq] at h; done) | skip
    simp only [veq, Bool.and_eq_true, Nat.beq_eq] at h
    rw [oaddrEq_spec h.1, h.2.1, h.2.2]
  | .map a, b, h => by
    cases b <;> first | (cases a <;> simp [veq] at h; done) | skip
    rename_i b
    cases a <;> cases b <;> first | rfl | cases h | (simp only [veq, Nat.beq_eq] at h; rw [h])
  | .iface t v, b, h => by
    cases b <;> first | (simp [veq] at h; done) | skip
    simp only [veq, Bool.and_eq_true, Nat.beq_eq] at h
    rw [h.1, veq_spec h.2]
  | .agg ⟨l⟩, b, h => by
    cases b <;> first | (simp [veq] at h; done) | skip
    rename_i m
    obtain ⟨m⟩ := m
    simp only [veq] at h
    rw [veqL_spec h]
  | .tuple ⟨l⟩, b, h => by
    cases b <;> first | (simp [veq] at h; done) | skip
    rename_i m
    obtain ⟨m⟩ := m
    simp only [veq] at h
    rw [veqL_spec h]
  | .func f ⟨l⟩ ⟨m⟩, b, h => by
    cases b <;> first | (cases f <;> simp [veq] at h; done) | skip
    rename_i g l' m'
    obtain ⟨l'⟩ := l'
    obtain ⟨m'⟩ := m'
    cases f <;> first | (simp [veq] at h; done) | skip
    cases g <;> first | (simp [veq] at h; done) | skip
    simp only [veq, Bool.and_eq_true, Nat.beq_eq] at h
    rw [h.1, veqL_spec h.2.1, veqL_spec h.2.2]
  | .nilFunc, b, h => by cases b <;> first | rfl | (simp [veq] at h; done)
  | .nilIface, b, h => by cases b <;> first | rfl | (simp [veq] at h; done)
  | .float _ _, b, h => by simp [veq] at h
  | .complex _ _ _, b, h => by simp [veq] at h
  | .chan _, b, h => by simp [veq] at h
theorem veqL_spec : ∀ {l m : List Value}, veqL l m = true → l = m
  | [], m, h => by cases m <;> first | rfl | (simp [veqL] at h; done)
  | a :: l, m, h => by
    cases m with
    | nil => simp [veqL] at h
    | cons b m =>
      simp only [veqL, Bool.and_eq_true] at h
      rw [veq_spec h.1, veqL_spec h.2]
end
/- operations that leave the heap as it is -/
def pureOp : Op → Bool
  | .move _ | .assign _ | .pick _ _ _ | .build _ _ | .nilCheck _ | .binOp _ _ _ _ _ | .unOp _ _ _ | .convert _ _ _ | .makeInterface _ _ | .makeFunc _ _ _ | .slice _ _ _ _ _ | .fieldAddr _ _ _ | .field _ _ _
  | .indexAddr _ _ _ | .index _ _ _ | .typeAssert _ _ _ _ | .extract _ _ => true
  | .call c => (match c.callee with | .builtin .min | .builtin .max | .builtin .cap => true | _ => false)
  | _ => false
def readOp : Op → Bool
  | .load _ _ | .lookup _ _ _ _ | .entry _ => true
  | .call c => (match c.callee with | .builtin .len => true | _ => false)
  | _ => false
section
variable {E : Nat → Option TI} {T : Nat → Value} {get get' : Nat → Option AObj} {nid nid' : Nat} {op : Op} {v : Value} {e : HE}
theorem keep1_keep {o : Option Value} (h : keep1 o = some (v, e)) : e = .keep := (keep1_spec h).2
theorem pureOp_spec (hp : pureOp op = true) : opA E T get nid op = opA E T get' nid' op := by
  cases op <;> first | rfl | (cases hp; done) | skip
  rename_i c
  simp only [pureOp] at hp
  simp only [opA]
  split at hp <;> first | (cases hp; done) | skip
  all_goals
    rename_i hc
    rw [hc]
    simp only [builtinA] <;> rcases c.argTypes.toList with _ | ⟨t, ts⟩ <;> rcases evL T c.args.toList with _ | ⟨x, _ | ⟨y, l⟩⟩ <;> rfl
theorem readOp_spec (hp : readOp op = true) : opA E T get nid op = opA E T get nid' op := by
  cases op <;> first | rfl | (cases hp; done) | skip
  rename_i c
  simp only [readOp] at hp
  simp only [opA]
  split at hp <;> first | (cases hp; done) | skip
  rename_i hc
  rw [hc]
  simp only [builtinA] <;> rcases c.argTypes.toList with _ | ⟨t, ts⟩ <;> rcases evL T c.args.toList with _ | ⟨x, _ | ⟨y, l⟩⟩ <;> rfl
theorem float_keep (hp : (pureOp op || readOp op) = true) (hr : opA E T get nid op = some (v, e)) : e = .keep := by
  cases op <;> first | (cases hp; done) | skip
  case move => cases hr; rfl
  case assign => cases hr; rfl
  case pick =>
    simp only [opA] at hr
    split at hr <;> first | (cases hr; rfl) | cases hr
  case makeFunc => cases hr; rfl
  case call c =>
    simp only [opA] at hr
    simp only [pureOp, readOp] at hp
    split at hr
    · rename_i b hb
      rw [hb] at hp
      unfold builtinA at hr
      split at hr <;> first | exact keep1_keep hr | (cases hp; done) | cases hr
    · cases hr
  all_goals exact keep1_keep hr
end
def isFl (op : Op) : Bool := pureOp op || readOp op
end Go.Ab
/- The functions and the types that the machine knows. -/
namespace Go.Ab
open Go.RowKit
/-- functions that are not run but known: what they return, and what they do to the heap -/
abbrev Prim := Nat → List Value → (Nat → Option AObj) → Nat → Option (Value × HE)
abbrev KN := AEx → St → Bool
/-- at a panic: its value, the temporaries (where they are known), the heap -/
abbrev KP := Value → Option (Tr Value) → Tr AObj → Nat → Bool
abbrev KR := Value → Tr AObj → Nat → Bool
/-- functions for which another machine stands -/
abbrev Orc := Nat → Option (List Value → Tr AObj → Nat → KR → KP → Bool)
structure EE where
  ty : Nat → Option TI
  fn : Nat → Option Func
  ng : Nat
  mt : List (Nat × String × Nat)
  pr : Prim
  orc : Orc
/-- a function's code, where each operand means the same in the abstract heap and each temporary lies in the frame -/
def okOps (ng N : Nat) : List Oper → Bool
  | [] => true
  | o :: l => bif okL ng o.op.operands.toList && dstOK N o then okOps ng N l else false
def okCode (ng N : Nat) : Code → Bool
  | .region _ ops _ => okOps ng N ops.toList
  | .seq a b => bif okCode ng N a then okCode ng N b else false
  | .cond c a b => bif okO ng c then (bif okCode ng N a then okCode ng N b else false) else false
  | .block _ b | .loop b | .scope b => okCode ng N b
  | _ => true
def fnOf (P : Program) (ng : Nat) (f : Nat) : Option Func :=
  match P.funcs[f]? with
  | some fn => (match fn.body with
    | some c => bif okCode ng fn.ntmps c && (Nat.blt fn.ntmps 4000 && !(fn.name == "runtime.NumGoroutine")) then some fn else none
    | none => none)
  | none => none
def findMt : List (Nat × String × Nat) → Nat → String → Option Nat
  | [], _, _ => none
  | (t, n, g) :: l, t', n' => bif Nat.beq t t' && decide (n = n') then some g else findMt l t' n'
def eeOf (P : Program) (ng : Nat) (mt : List (Nat × String × Nat)) (pr : Prim) (orc : Orc) : EE := ⟨tiOf P, fnOf P ng, ng, mt, pr, orc⟩
section
variable {P : Program}
theorem fnOf_spec {ng f : Nat} {fn : Func} (h : fnOf P ng f = some fn) : P.funcs[f]? = some fn ∧ ∃ c, fn.body = some c ∧ okCode ng fn.ntmps c = true ∧ fn.ntmps < 4000 ∧ Enters P f := by
  unfold fnOf at h
  split at h
  · rename_i fn' hf
    split at h
    · rename_i c hb
      cases hc : (okCode ng fn'.ntmps c && (Nat.blt fn'.ntmps 4000 && !(fn'.name == "runtime.NumGoroutine"))) with
      | false => rw [hc] at h; cases h
      | true =>
        rw [hc] at h
        cases h
        simp only [Bool.and_eq_true, Bool.not_eq_true'] at hc
        refine ⟨hf, c, hb, hc.1, blt_iff.1 hc.2.1, fun args w => ?_⟩
        have hn : ¬ (fn.name = "runtime.NumGoroutine") := by simpa using hc.2.2
        simp [callFunc, hf, hb, hn]
    · cases h
  · cases h
theorem envOK {ng : Nat} {mt : List (Nat × String × Nat)} {pr : Prim} {orc : Orc} : EnvOK P (eeOf P ng mt pr orc).ty := fun _ _ h => h
end
end Go.Ab
/- Calls of functions that compute with values alone. -/
namespace Go.Ab
open Go.RowKit
def noGet : Nat → Option AObj := fun _ => none
/-- an operation that looks at values alone -/
def valOp (op : Op) : Bool :=
  bif pureOp op then true else
  match op with
  | .call c => (match c.callee with | .builtin .len => true | _ => false)
  | _ => false
section
variable {E : Nat → Option TI} {T : Nat → Value}
theorem lenA_noGet {t : Nat} {x v : Value} {get : Nat → Option AObj} (h : lenA E noGet t x = some v) : lenA E get t x = some v := by
  unfold lenA at *
  split at h
  · exact h
  · exact h
  · exact h
  · exact h
  · split at h
    · rename_i es hes
      have : entsA get x = some es := by
        unfold entsA at *
        split at hes
        · exact hes
        · split at hes
          · rename_i hg; cases hg
          · cases hes
        · cases hes
      rw [this]
      exact h
    · cases h
  · cases h
theorem val_noGet {op : Op} {r : Value × HE} {get : Nat → Option AObj} {nid : Nat} (hf : valOp op = true) (h : opA E T noGet 0 op = some r) : opA E T get nid op = some r ∧ r.2 = .keep := by
  unfold valOp at hf
  cases hp : pureOp op with
  | true =>
    refine ⟨by rw [← h]; exact pureOp_spec hp, ?_⟩
    obtain ⟨v, e⟩ := r
    exact float_keep (by rw [hp]; rfl) h
  | false =>
    rw [hp] at hf
    simp only [cond_false] at hf
    cases op <;> first | (cases hf; done) | skip
    rename_i c
    simp only at hf
    split at hf <;> first | (cases hf; done) | skip
    rename_i hc
    obtain ⟨v, e⟩ := r
    simp only [opA, hc] at h ⊢
    generalize c.argTypes.toList = ts at h ⊢
    generalize evL T c.args.toList = xs at h ⊢
    rcases ts with _ | ⟨t, ts⟩
    · cases h
    · rcases xs with _ | ⟨x, _ | ⟨y, l⟩⟩
      · cases h
      · obtain ⟨hk1, hk2⟩ := keep1_spec (o := lenA E noGet t x) h
        subst hk2
        have := lenA_noGet (get := get) hk1
        exact ⟨by show keep1 (lenA E get t x) = _; rw [this]; rfl, rfl⟩
      · cases h
/-- straight code that computes with values alone -/
def pevOps (E : Nat → Option TI) (all : List Oper) : List Oper → Tr Value → Option (Tr Value)
  | [], tm => some tm
  | o :: r, tm =>
    bif wantA all (tmv tm) o then
      bif valOp o.op then (match opA E (tmv tm) noGet 0 o.op with | some (v, _) => pevOps E all r (putS tm o.dst v) | none => none) else none
    else bif gK all (tmv tm) o then pevOps E all r (putS tm o.dst undef) else none
def pevC (E : Nat → Option TI) : Code → Tr Value → Option (Tr Value × Bool)
  | .skip, tm => some (tm, false)
  | .ret, tm => some (tm, true)
  | .seq a b, tm => (match pevC E a tm with | some (tm', r) => bif r then some (tm', true) else pevC E b tm' | none => none)
  | .region _ ops d, tm => bif d then none else (match pevOps E ops.toList ops.toList tm with | some tm' => some (tm', false) | none => none)
  | _, _ => none
def resT (T : Nat → Value) : List ResultVar → Option (List Value)
  | [] => some []
  | .tmp t :: l => (match resT T l with | some r => some (T t :: r) | none => none)
  | _ => none
def pureCall (E : EE) (f : Nat) (args : List Value) : Option Value :=
  match E.fn f with
  | some fn => (match fn.body with
    | some c => bif Nat.blt args.length 4000 then
        (match pevC E.ty c (argS args 0 .nil) with
        | some (tm, _) => (match resT (tmv tm) fn.results.toList with | some r => some (oneV r) | none => none)
        | none => none) else none
    | none => none)
  | none => none
def valOps : List Oper → Bool
  | [] => true
  | o :: l => bif valOp o.op then valOps l else false
def pureCode : Code → Bool
  | .skip | .ret => true
  | .seq a b => bif pureCode a then pureCode b else false
  | .region _ ops d => bif d then false else valOps ops.toList
  | _ => false
def pureFn (E : EE) (f : Nat) : Bool :=
  match E.fn f with
  | some fn => (match fn.body with | some c => pureCode c | none => false)
  | none => false
end
section
variable {P : Program} {ng : Nat} {E : Nat → Option TI} (hE : EnvOK P E) (hng : ng ≤ P.globals.size)
theorem okOps_cons' {N : Nat} {o : Oper} {l : List Oper} (h : okOps ng N (o :: l) = true) : okL ng o.op.operands.toList = true ∧ dstOK N o = true ∧ okOps ng N l = true := by
  unfold okOps at h
  cases hb : (okL ng o.op.operands.toList && dstOK N o) with
  | false => rw [hb] at h; cases h
  | true =>
    rw [hb] at h
    simp only [Bool.and_eq_true] at hb
    exact ⟨hb.1, hb.2, h⟩
include hE hng
theorem pevOps_sound {N N' : Nat} (hN : N < 4000) (hN' : N ≤ N') {Q : APost} {ops : Array Oper} {h : Hp} : ∀ {rest : List Oper} {tm tm' : Tr Value}, okOps ng N rest = true → pevOps E ops.toList rest tm = some tm' → Q .normal (tmv tm') h → AList P N' ops rest Q (tmv tm) h
  | [], tm, tm', _, he, q => by cases he; exact AList.nil q
  | o :: r, tm, tm', hok, he, q => by
    obtain ⟨ho, hd, hr⟩ := okOps_cons' hok
    have hlt : ∀ i, o.dst = some i → i < 4000 := fun i hi => Nat.lt_trans (dstOK_spec hd i hi) hN
    have hd' : dstOK N' o = true := by
      unfold dstOK at *
      split at hd
      · rename_i d hdd
        have := blt_iff.1 hd
        exact blt_iff.2 (Nat.lt_of_lt_of_le this hN')
      · rfl
    unfold pevOps at he
    cases hw : wantA ops.toList (tmv tm) o with
    | false =>
      rw [hw] at he
      simp only [cond_false] at he
      cases hk : gK ops.toList (tmv tm) o with
      | false => rw [hk] at he; cases he
      | true =>
      rw [hk] at he
      refine AList.skip hd' hw hk ?_
      rw [← putS_eq hlt]
      exact pevOps_sound hN hN' hr he q
    | true =>
      rw [hw] at he
      simp only [cond_true] at he
      cases hv : valOp o.op with
      | false => rw [hv] at he; cases he
      | true =>
        rw [hv] at he
        simp only [cond_true] at he
        split at he
        · rename_i v e hop
          obtain ⟨h1, h2⟩ := val_noGet (get := h.get) (nid := h.next) hv hop
          simp only at h2
          subst h2
          refine AList.op hE hng hd' hw ho h1 ?_
          rw [← putS_eq hlt]
          exact pevOps_sound hN hN' hr he q
        · cases he
theorem pevC_sound {N N' : Nat} (hN : N < 4000) (hN' : N ≤ N') {h : Hp} : ∀ {c : Code} {tm tm' : Tr Value} {b : Bool} {Q : APost}, okCode ng N c = true → pevC E c tm = some (tm', b) → Q (bif b then .ret else .normal) (tmv tm') h → AWp P N' c Q (tmv tm) h
  | .skip, tm, tm', b, Q, _, he, q => by cases he; exact AWp.skip q
  | .ret, tm, tm', b, Q, _, he, q => by cases he; exact AWp.ret q
  | .seq x y, tm, tm', b, Q, hok, he, q => by
    unfold okCode at hok
    cases ha : okCode ng N x with
    | false => rw [ha] at hok; cases hok
    | true =>
      rw [ha] at hok
      unfold pevC at he
      split at he
      · rename_i tm1 r1 h1
        cases r1 with
        | true => cases he; exact AWp.seq (pevC_sound hN hN' ha h1 q)
        | false => exact AWp.seq (pevC_sound hN hN' ha h1 (pevC_sound hN hN' hok he q))
      · cases he
  | .region id ops d, tm, tm', b, Q, hok, he, q => by
    unfold pevC at he
    cases d with
    | true => cases he
    | false =>
      simp only [cond_false] at he
      split at he
      · rename_i tm1 h1
        cases he
        exact AWp.region (pevOps_sound hE hng hN hN' hok h1 q)
      · cases he
  | .cond _ _ _, _, _, _, _, _, he, _ => by simp [pevC] at he
  | .block _ _, _, _, _, _, _, he, _ => by simp [pevC] at he
  | .loop _, _, _, _, _, _, he, _ => by simp [pevC] at he
  | .rangeFunc _ _ _ _, _, _, _, _, _, he, _ => by simp [pevC] at he
  | .exit _, _, _, _, _, _, he, _ => by simp [pevC] at he
  | .scope _, _, _, _, _, _, he, _ => by simp [pevC] at he
  | .label _, _, _, _, _, _, he, _ => by simp [pevC] at he
  | .goto _, _, _, _, _, _, he, _ => by simp [pevC] at he
  | .refuse _, _, _, _, _, _, he, _ => by simp [pevC] at he
end
section
variable {P : Program} {ng : Nat} {mt : List (Nat × String × Nat)} {pr : Prim} {orc : Orc}
theorem resT_resL {E : Nat → Option TI} {T : Nat → Value} {get : Nat → Option AObj} : ∀ {l : List ResultVar} {r : List Value}, resT T l = some r → resL E T get l = some r
  | [], r, h => h
  | .tmp t :: l, r, h => by
    simp only [resT] at h
    split at h
    · rename_i r' hr
      simp only [resL, resT_resL hr]
      exact h
    · cases h
  | .cell _ _ :: _, r, h => by simp [resT] at h
theorem pureCall_sound (hng : ng ≤ P.globals.size) {f : Nat} {args : List Value} {v : Value} (he : pureCall (eeOf P ng mt pr orc) f args = some v) (h : Hp) : Enters P f ∧ ACalls P f args (fun e h' => e = .ret v ∧ h' = h) h := by
  unfold pureCall at he
  split at he
  · rename_i fn hf
    obtain ⟨h1, c, h2, h3, h4, h5⟩ := fnOf_spec hf
    refine ⟨h5, ?_⟩
    rw [h2] at he
    simp only at he
    cases hl : Nat.blt args.length 4000 with
    | false => rw [hl] at he; cases he
    | true =>
      rw [hl] at he
      simp only [cond_true] at he
      split at he
      · rename_i tm b hp
        split at he
        · rename_i r hr
          cases he
          refine ACalls.body (E := (eeOf P ng mt pr orc).ty) envOK h1 h2 ?_
          rw [← argS_T (blt_iff.1 hl)]
          refine pevC_sound envOK hng h4 (Nat.le_max_right _ _) h3 hp ?_
          cases b with
          | true => exact ⟨r, resT_resL hr, rfl, rfl⟩
          | false => exact ⟨r, resT_resL hr, rfl, rfl⟩
        · cases he
      · cases he
  · cases he
end
end Go.Ab
/- An order for the operations of a region that asks for it. -/
namespace Go.Ab
open Go.RowKit
/-- does an operation leave the heap as it is? (pf: calls of which functions do) -/
def isFlX (pf : Nat → Bool) (op : Op) : Bool :=
  bif isFl op then true else
  match op with
  | .call c => (match c.callee with | .value (.func g) => pf g | _ => false)
  | _ => false
/-- the steps of an order -/
inductive PStep where
  | fl (i : Nat) (o : Oper)
  | ef (j : Nat) (o : Oper) (deps : List Nat)
def findFl (pf : Nat → Bool) (ops : Array Oper) : List Nat → Option (Nat × Oper)
  | [] => none
  | i :: l => (match ops[i]? with | some o => bif isFlX pf o.op then some (i, o) else findFl pf ops l | none => findFl pf ops l)
/-- does an operation wait for another, through others too? -/
def depB (ops : Array Oper) : Nat → Nat → Nat → Bool
  | 0, _, _ => false
  | n + 1, j, i => (match ops[j]? with | some o => o.after.toList.any fun e => Region.binds .any e && (Nat.beq e.on i || depB ops n e.on i) | none => false)
def depsOf (ops : Array Oper) (j : Nat) : List Nat := (List.range ops.size).filter fun i => depB ops ops.size j i
def planOf (pf : Nat → Bool) (ops : Array Oper) : Nat → Array Bool → Option (List PStep)
  | 0, l => (match Region.ready .any ops l with | [] => some [] | _ => none)
  | n + 1, l =>
    (match Region.ready .any ops l with
    | [] => some []
    | r :: rs =>
      (match findFl pf ops (r :: rs) with
      | some (i, o) => bif Region.free .any ops l i then (match planOf pf ops n (l.setIfInBounds i true) with | some p => some (.fl i o :: p) | none => none) else none
      | none =>
        (match rs, ops[r]? with
        | [], some o => (match planOf pf ops n (l.setIfInBounds r true) with | some p => some (.ef r o (depsOf ops r) :: p) | none => none)
        | _, _ => none)))
theorem findFl_spec {pf : Nat → Bool} {ops : Array Oper} : ∀ {l : List Nat} {i : Nat} {o : Oper}, findFl pf ops l = some (i, o) → i ∈ l ∧ ops[i]? = some o ∧ isFlX pf o.op = true
  | [], _, _, h => by cases h
  | j :: l, i, o, h => by
    unfold findFl at h
    split at h
    · rename_i o' ho
      cases hf : isFlX pf o'.op with
      | true => rw [hf] at h; cases h; exact ⟨List.mem_cons_self, ho, hf⟩
      | false => rw [hf] at h; obtain ⟨h1, h2⟩ := findFl_spec h; exact ⟨List.mem_cons_of_mem _ h1, h2⟩
    · obtain ⟨h1, h2⟩ := findFl_spec h; exact ⟨List.mem_cons_of_mem _ h1, h2⟩
theorem findFl_none {pf : Nat → Bool} {ops : Array Oper} : ∀ {l : List Nat}, findFl pf ops l = none → ∀ i ∈ l, ∀ o, ops[i]? = some o → isFlX pf o.op = false
  | [], _, i, hi => by cases hi
  | j :: l, h, i, hi => by
    intro o ho
    unfold findFl at h
    split at h
    · rename_i o' ho'
      cases hf : isFlX pf o'.op with
      | true => rw [hf] at h; cases h
      | false =>
        rw [hf] at h
        cases hi with
        | head => rw [ho] at ho'; cases ho'; exact hf
        | tail _ hi => exact findFl_none h i hi o ho
    · rename_i ho'
      cases hi with
      | head => rw [ho] at ho'; cases ho'
      | tail _ hi => exact findFl_none h i hi o ho
theorem depB_closed {ops : Array Oper} {l : Array Bool} (hc : Closed ops l) : ∀ (n j i : Nat), depB ops n j i = true → l.getD j false = true → l.getD i false = true
  | 0, _, _, h, _ => by simp [depB] at h
  | n + 1, j, i, h, hj => by
    unfold depB at h
    split at h
    · rename_i o ho
      simp only [List.any_eq_true, Bool.and_eq_true, Bool.or_eq_true, Nat.beq_eq] at h
      obtain ⟨e, he, hb, hd⟩ := h
      have hl := hc j o ho hj e (by simpa using he) hb
      rcases hd with rfl | hd
      · exact hl
      · exact depB_closed hc n _ _ hd hl
    · cases h
theorem depsOf_spec {ops : Array Oper} {j i : Nat} (h : memN i (depsOf ops j) = true) : depB ops ops.size j i = true := by
  rw [memN_spec] at h
  simp only [depsOf, List.contains_iff_mem, List.mem_filter] at h
  exact h.2
/-- a value that was read, and how -/
structure LE where
  i : Nat
  o : Oper
  tm : Tr Value
  v : Value
end Go.Ab
/- The operations once more, by the operation first: so the kernel keeps what an operation of the code comes to. -/
namespace Go.Ab
open Go.RowKit
def binInt (op : BinOp) : IntKind → Int → Int → Option Value :=
  match op with
  | .add => fun k a b => some (.int k (k.wrap (a + b)))
  | .sub => fun k a b => some (.int k (k.wrap (a - b)))
  | .mul => fun k a b => some (.int k (k.wrap (a * b)))
  | .eql => fun _ a b => some (.bool (a == b))
  | .neq => fun _ a b => some (.bool (a != b))
  | .lss => fun _ a b => some (.bool (decide (a < b)))
  | .leq => fun _ a b => some (.bool (decide (a ≤ b)))
  | .gtr => fun _ a b => some (.bool (decide (b < a)))
  | .geq => fun _ a b => some (.bool (decide (b ≤ a)))
  | op => fun k a b => arith op k a b
theorem binInt_eq (op : BinOp) (k : IntKind) (a b : Int) : binInt op k a b = arith op k a b := by cases op <;> rfl
def isShift : BinOp → Bool
  | .shl | .shr => true
  | _ => false
def binF (E : Nat → Option TI) (op : BinOp) (t : Nat) : Value → Value → Option Value :=
  bif isShift op then fun x y => binA E op t x y else
  fun x y => match x with
  | .int k a => (match y with | .int k' b => bif kindEq k k' then binInt op k a b else none | y => binA E op t (.int k a) y)
  | x => binA E op t x y
theorem binF_eq (E : Nat → Option TI) (op : BinOp) (t : Nat) (x y : Value) : binF E op t x y = binA E op t x y := by
  unfold binF
  cases h : isShift op with
  | true => rfl
  | false =>
    simp only [cond_false]
    split
    · rename_i k a
      split
      · rename_i k' b
        have : binA E op t (.int k a) (.int k' b) = bif kindEq k k' then arith op k a b else none := by cases op <;> first | rfl | cases h
        rw [this]
        cases kindEq k k' <;> simp [binInt_eq]
      · rfl
    · rfl
def opF (E : Nat → Option TI) (op : Op) : (Nat → Value) → (Nat → Option AObj) → Nat → Option (Value × HE) :=
  match op with
  | .move x | .assign x => (match x with | .tmp t => fun T _ _ => some (T t, .keep) | x => fun T _ _ => some (evo T x, .keep))
  | .binOp op t x y _ => fun T _ _ => keep1 (binF E op t (evo T x) (evo T y))
  | .load t a => fun T get _ => keep1 (loadA E get t (evo T a))
  | .store t a x => fun T get _ => put1 (storeA E get t (evo T a) (evo T x))
  | .indexAddr t x i => fun T _ _ => keep1 (indexAddrA E t (evo T x) (evo T i))
  | .fieldAddr t x f => fun T _ _ => keep1 (fieldAddrA E t (evo T x) f)
  | .extract x i => fun T _ _ => keep1 (extractA (evo T x) i)
  | .pick c a b => fun T _ _ => (match evo T c with | .bool t => some (bif t then evo T a else evo T b, .keep) | _ => none)
  | .nilCheck x => fun T _ _ => keep1 (nilA (evo T x))
  | .slice t x lo hi mx => fun T _ _ => keep1 (sliceA E t (evo T x) (evOpt T lo) (evOpt T hi) (evOpt T mx))
  | .unOp op _ x => fun T _ _ => keep1 (unA op (evo T x))
  | .call c => (match c.callee with | .builtin b => fun T get nid => builtinA E get b c.argTypes.toList (evL T c.args.toList) nid | _ => fun _ _ _ => none)
  | op => fun T get nid => opA E T get nid op
theorem opF_eq (E : Nat → Option TI) (op : Op) (T : Nat → Value) (get : Nat → Option AObj) (nid : Nat) : opF E op T get nid = opA E T get nid op := by
  cases op <;> first | rfl | skip
  case move x => cases x <;> rfl
  case assign x => cases x <;> rfl
  case binOp => simp only [opF, opA, binF_eq]
  case call c =>
    simp only [opF, opA]
    cases c.callee <;> rfl
end Go.Ab
/- The machine: code is run, and what holds at its ends is asked of a continuation. -/
namespace Go.Ab
open Go.RowKit
def allB {α : Type} (p : α → Bool) : List α → Bool
  | [] => true
  | a :: l => bif p a then allB p l else false
/-- what was read is read again behind an effect, but for what the effect waited for -/
def recheck (E : Nat → Option TI) (get : Nat → Option AObj) (deps : List Nat) : List LE → Option (List LE)
  | [] => some []
  | e :: l =>
    bif memN e.i deps then recheck E get deps l else
    (match opA E (tmv e.tm) get 0 e.o.op with
    | some (v, _) => bif veq e.v v then (match recheck E get deps l with | some r => some (e :: r) | none => none) else none
    | none => none)
mutual
def ev (E : EE) : Nat → Code → St → KN → KP → Bool
  | 0, _, _, _, _ => false
  | n + 1, c, s, k, kp =>
    match c with
    | .skip => k .normal s
    | .label _ => k .normal s
    | .ret => k .ret s
    | .exit i => k (.exit i) s
    | .goto l => k (.goto l) s
    | .seq a b => ev E n a s (fun e s => match e with | .normal => ev E n b s k kp | e => k e s) kp
    | .cond x a b => (match evo (tmv s.tm) x with | .bool t => bif t then ev E n a s k kp else ev E n b s k kp | _ => false)
    | .block i b => ev E n b s (fun e s => match e with | .exit j => bif Nat.beq j i then k .normal s else k (.exit j) s | e => k e s) kp
    | .loop b => ev E n b s (fun e s => match e with | .normal => ev E n (.loop b) s k kp | e => k e s) kp
    | .scope b => evScope E n b b s k kp
    | .region _ ops d => bif d then (match planOf (pureFn E) ops ops.size (Array.replicate ops.size false) with | some p => evPlan E n ops.toList p [] s k kp | none => false) else evOps E n ops.toList ops.toList s k kp
    | _ => false
def evScope (E : EE) : Nat → Code → Code → St → KN → KP → Bool
  | 0, _, _, _, _, _ => false
  | n + 1, b, c, s, k, kp => ev E n c s (fun e s => match e with | .goto l => (match findLabel b l with | some r => evScope E n b r s k kp | none => false) | e => k e s) kp
def evOps (E : EE) : Nat → List Oper → List Oper → St → KN → KP → Bool
  | 0, _, _, _, _, _ => false
  | _ + 1, _, [], s, k, _ => k .normal s
  | n + 1, all, o :: r, s, k, kp =>
    bif wantA all (tmv s.tm) o then
      match opF E.ty o.op (tmv s.tm) s.hp.get s.nx with
      | some (v, e) => bif roomT e s.nx then evOps E n all r ⟨putS s.tm o.dst v, (appT e s.hp s.nx).1, (appT e s.hp s.nx).2⟩ k kp else false
      | none =>
        (match o.op with
        | .call c =>
          (match c.callee with
          | .value f =>
            (match evo (tmv s.tm) f with
            | .func (.func g) x y =>
              (match E.orc g with
              | some F => F (x.toList ++ (evL (tmv s.tm) c.args.toList ++ y.toList)) s.hp s.nx (fun v hp nx => evOps E n all r ⟨putS s.tm o.dst v, hp, nx⟩ k kp) (fun v _ hp nx => kp v (some s.tm) hp nx)
              | none =>
              match E.pr g (x.toList ++ (evL (tmv s.tm) c.args.toList ++ y.toList)) s.hp.get s.nx with
              | some (v, e) => bif roomT e s.nx then evOps E n all r ⟨putS s.tm o.dst v, (appT e s.hp s.nx).1, (appT e s.hp s.nx).2⟩ k kp else false
              | none => evCall E n g (x.toList ++ (evL (tmv s.tm) c.args.toList ++ y.toList)) s.hp s.nx (fun v hp nx => evOps E n all r ⟨putS s.tm o.dst v, hp, nx⟩ k kp) (fun v _ hp nx => kp v (some s.tm) hp nx))
            | _ => false)
          | .invoke f name =>
            (match evo (tmv s.tm) f with
            | .iface t x => (match findMt E.mt t name with
              | some g => evCall E n g (x :: evL (tmv s.tm) c.args.toList) s.hp s.nx (fun v hp nx => evOps E n all r ⟨putS s.tm o.dst v, hp, nx⟩ k kp) (fun v _ hp nx => kp v (some s.tm) hp nx)
              | none => false)
            | _ => false)
          | _ => false)
        | .panic x => (match evo (tmv s.tm) x with | .iface t v => kp (.iface t v) (some s.tm) s.hp s.nx | _ => false)
        | .next x str =>
          (match nextA s.hp.get (evo (tmv s.tm) x) str with
          | some L => allB (fun p => bif roomT p.2 s.nx then evOps E n all r ⟨putS s.tm o.dst p.1, (appT p.2 s.hp s.nx).1, (appT p.2 s.hp s.nx).2⟩ k kp else false) L
          | none => false)
        | _ => false)
    else bif gK all (tmv s.tm) o then evOps E n all r ⟨putS s.tm o.dst undef, s.hp, s.nx⟩ k kp else false
def evPlan (E : EE) : Nat → List Oper → List PStep → List LE → St → KN → KP → Bool
  | 0, _, _, _, _, _, _ => false
  | _ + 1, _, [], _, s, k, _ => k .normal s
  | n + 1, all, .fl i o :: p, L, s, k, kp =>
    bif wantA all (tmv s.tm) o then
      match opF E.ty o.op (tmv s.tm) s.hp.get 0 with
      | some (v, _) => evPlan E n all p (bif readOp o.op then ⟨i, o, s.tm, v⟩ :: L else L) ⟨putS s.tm o.dst v, s.hp, s.nx⟩ k kp
      | none =>
        (match o.op with
        | .call c =>
          (match c.callee with
          | .value (.func g) => (match pureCall E g (evL (tmv s.tm) c.args.toList) with | some v => evPlan E n all p L ⟨putS s.tm o.dst v, s.hp, s.nx⟩ k kp | none => false)
          | _ => false)
        | _ => false)
    else bif gK all (tmv s.tm) o then evPlan E n all p L ⟨putS s.tm o.dst undef, s.hp, s.nx⟩ k kp else false
  | n + 1, all, .ef _ o deps :: p, L, s, k, kp =>
    bif wantA all (tmv s.tm) o then
      match opF E.ty o.op (tmv s.tm) s.hp.get s.nx with
      | some (v, e) => bif roomT e s.nx then (match recheck E.ty (appT e s.hp s.nx).1.get deps L with | some L' => evPlan E n all p L' ⟨putS s.tm o.dst v, (appT e s.hp s.nx).1, (appT e s.hp s.nx).2⟩ k kp | none => false) else false
      | none =>
        (match o.op with
        | .call c =>
          (match c.callee with
          | .value f =>
            (match evo (tmv s.tm) f with
            | .func (.func g) x y =>
              (match E.pr g (x.toList ++ (evL (tmv s.tm) c.args.toList ++ y.toList)) s.hp.get s.nx with
              | some (v, e) => bif roomT e s.nx then (match recheck E.ty (appT e s.hp s.nx).1.get deps L with | some L' => evPlan E n all p L' ⟨putS s.tm o.dst v, (appT e s.hp s.nx).1, (appT e s.hp s.nx).2⟩ k kp | none => false) else false
              | none => evCall E n g (x.toList ++ (evL (tmv s.tm) c.args.toList ++ y.toList)) s.hp s.nx
                (fun v hp nx => match recheck E.ty hp.get deps L with | some L' => evPlan E n all p L' ⟨putS s.tm o.dst v, hp, nx⟩ k kp | none => false) (fun v _ hp nx => kp v none hp nx))
            | _ => false)
          | _ => false)
        | .panic x => (match evo (tmv s.tm) x with | .iface t v => kp (.iface t v) none s.hp s.nx | _ => false)
        | _ => false)
    else bif gK all (tmv s.tm) o then evPlan E n all p L ⟨putS s.tm o.dst undef, s.hp, s.nx⟩ k kp else false
def evCall (E : EE) : Nat → FuncId → List Value → Tr AObj → Nat → KR → KP → Bool
  | 0, _, _, _, _, _, _ => false
  | n + 1, f, args, hp, nx, k, kp =>
    match E.fn f with
    | some fn =>
      (match fn.body with
      | some c => bif Nat.blt args.length 4000 then ev E n c ⟨argS args 0 .nil, hp, nx⟩ (fun e s => match e with
        | .normal | .ret => (match resL E.ty (tmv s.tm) s.hp.get fn.results.toList with | some r => k (oneV r) s.hp s.nx | none => false)
        | _ => false) kp else false
      | none => false)
    | none => false
end
end Go.Ab
/- What the machine runs to true holds. -/
namespace Go.Ab
open Go.RowKit
def St.h (s : St) : Hp := hpOf s.hp s.nx
/-- what a continuation asks -/
def QK (k : KN) (kp : KP) : APost := fun e T h => ∃ s : St, h = s.h ∧ (match e with | .panic v => (T = s.T ∧ kp v (some s.tm) s.hp s.nx = true) ∨ kp v none s.hp s.nx = true | e => T = s.T ∧ k e s = true)
section
variable {P : Program}
theorem stepR_scope {b : Frame} {a : Act} {k : List Item} {cs : List Frame} {w : World} {c : Code} : step P (lone (b.atR a (.code (.scope c) :: k)) cs w) = .next (lone (b.atR a (.code c :: .inScope c :: k)) cs w) :=
  step_lone_go (by simp [stepG, stepG.exec, Frame.atR])
theorem stepR_inScope {b : Frame} {a : Act} {k : List Item} {cs : List Frame} {w : World} {c : Code} : step P (lone (b.atR a (.inScope c :: k)) cs w) = .next (lone (b.atR a k) cs w) :=
  step_lone_go (by simp [stepG, stepG.exec, Frame.atR])
/-- jumps in a scope -/
def ScopeRounds (r : Option Nat) (P : Program) (c : Code) (Q : Exit → Act → World → Prop) : Nat → Code → Act → World → Prop
  | 0, _, _, _ => False
  | n + 1, cur, a, w => cur.wpIn (FR r) 0 P (fun e a w => match e with | .goto l => ∃ rest, findLabel c l = some rest ∧ ScopeRounds r P c Q n rest a w | e => Q e a w) a w
theorem wp_scope_rounds {r : Option Nat} {c : Code} {Q : Exit → Act → World → Prop} {a : Act} {w : World} (n : Nat) (h : ScopeRounds r P c Q n c a w) : (Code.scope c).wpIn (FR r) 0 P Q a w := by
  intro b k cs hro hb hr0
  have key : ∀ n cur a w, ScopeRounds r P c Q n cur a w → ∃ e a' w', Q e a' w' ∧ ArrivesIn (Machine.fenced P (FR r)) P (lone (b.atR a (.code cur :: .inScope c :: k)) cs w) b k cs e a' w' := by
    intro n
    induction n with
    | zero => intro cur a w h; exact h.elim
    | succ n ih =>
      intro cur a w h
      obtain ⟨e, a₁, w₁, hq, harr⟩ := h b (.inScope c :: k) cs hro hb hr0
      cases e with
      | normal => exact ⟨.normal, a₁, w₁, hq, StepsIn.trans harr (.one (fenced_calm hb hr0 rfl) stepR_inScope)⟩
      | exit id =>
        have hx : exitTo id (.inScope c :: k) = exitTo id k := by simp [exitTo]
        exact ⟨.exit id, a₁, w₁, hq, fun k' hk => harr.1 k' (by rw [hx]; exact hk), fun hr' hk => harr.2 hr' (by rw [hx]; exact hk)⟩
      | goto l' =>
        obtain ⟨rest, hf, hr⟩ := hq
        have hg : gotoIn l' (.inScope c :: k) = some (.code rest :: .inScope c :: k) := by simp [gotoIn, hf]
        obtain ⟨e₂, a₂, w₂, hq₂, harr₂⟩ := ih rest a₁ w₁ hr
        exact ⟨e₂, a₂, w₂, hq₂, .of_steps (harr.1 _ hg) harr₂⟩
      | ret => exact ⟨_, a₁, w₁, hq, harr⟩
      | panic ch => exact ⟨_, a₁, w₁, hq, harr⟩
      | outgrown => exact ⟨_, a₁, w₁, hq, harr⟩
  obtain ⟨e, a', w', hq, harr⟩ := key n c a w h
  exact ⟨e, a', w', hq, .of_steps (.one (fenced_calm hb hr0 rfl) stepR_scope) harr⟩
def AScope (P : Program) (N : Nat) (c : Code) (Q : APost) : Nat → Code → (Nat → Value) → Hp → Prop
  | 0, _, _, _ => False
  | n + 1, cur, T, h => AWp P N cur (fun e T h => match e with | .goto l => ∃ rest, findLabel c l = some rest ∧ AScope P N c Q n rest T h | e => Q e T h) T h
theorem AScope.sound {fr : Option Nat} {N : Nat} {c : Code} {Q : APost} : ∀ (n : Nat) {cur : Code} {T : Nat → Value} {h : Hp} {ρ0 ρ : Ren} {h0 : Hp} {w0 w : World} {a : Act}, AScope P N c Q n cur T h → HR P ρ h w → Fr h0.next ρ0 h0 w0 ρ h w → TR ρ T N a →
    ScopeRounds fr P c (Post P ρ0 h0 w0 N a.defers Q) n cur a w
  | 0, _, _, _, _, _, _, _, _, _, p, _, _, _ => p.elim
  | n + 1, cur, T, h, ρ0, ρ, h0, w0, w, a, p, H, F, ht => by
    refine wpIn_mono (p fr ρ w a H ht) fun e a' w' q => ?_
    obtain ⟨e', ρ', T', h', p1, p2, p3, p4, p5, p6⟩ := q
    cases e' with
    | normal => cases p1; exact ⟨.normal, ρ', T', h', rfl, p2, F.trans p3 F.next, p4, p5, p6⟩
    | exit i => cases p1; exact ⟨.exit i, ρ', T', h', rfl, p2, F.trans p3 F.next, p4, p5, p6⟩
    | ret => cases p1; exact ⟨.ret, ρ', T', h', rfl, p2, F.trans p3 F.next, p4, p5, p6⟩
    | panic v => obtain ⟨cv, rfl, p7⟩ := p1; exact ⟨.panic v, ρ', T', h', ⟨cv, rfl, p7⟩, p2, F.trans p3 F.next, p4, p5, p6⟩
    | goto l =>
      cases p1
      obtain ⟨rest, k1, k2⟩ := p6
      have := AScope.sound (fr := fr) n k2 p2 (F.trans p3 F.next) p4
      rw [p5] at this
      exact ⟨rest, k1, this⟩
theorem AWp.scope {N : Nat} {c : Code} {Q : APost} {T : Nat → Value} {h : Hp} (n : Nat) (p : AScope P N c Q n c T h) : AWp P N (.scope c) Q T h := fun _ _ _ _ H ht => wp_scope_rounds n (p.sound n H (Fr.refl _ _ _ _) ht)
/- the parts of code that is fit -/
theorem findLabel_ok {ng N : Nat} : ∀ {c : Code} {l : Nat} {r : Code}, okCode ng N c = true → findLabel c l = some r → okCode ng N r = true
  | .seq a b, l, r, h, hf => by
    unfold okCode at h
    cases ha : okCode ng N a with
    | false => rw [ha] at h; cases h
    | true =>
      rw [ha] at h
      simp only [findLabel] at hf
      split at hf
      · rename_i ra hra
        cases hf
        have := findLabel_ok ha hra
        simp only [okCode, this]
        exact h
      · exact findLabel_ok h hf
  | .label l', l, r, _, hf => by
    simp only [findLabel] at hf
    split at hf
    · cases hf; rfl
    · cases hf
  | .skip, _, _, _, hf => by simp [findLabel] at hf
  | .region _ _ _, _, _, _, hf => by simp [findLabel] at hf
  | .cond _ _ _, _, _, _, hf => by simp [findLabel] at hf
  | .block _ _, _, _, _, hf => by simp [findLabel] at hf
  | .loop _, _, _, _, hf => by simp [findLabel] at hf
  | .rangeFunc _ _ _ _, _, _, _, hf => by simp [findLabel] at hf
  | .exit _, _, _, _, hf => by simp [findLabel] at hf
  | .scope _, _, _, _, hf => by simp [findLabel] at hf
  | .goto _, _, _, _, hf => by simp [findLabel] at hf
  | .ret, _, _, _, hf => by simp [findLabel] at hf
  | .refuse _, _, _, _, hf => by simp [findLabel] at hf
theorem dstOK_mono {N N' : Nat} {o : Oper} (h : dstOK N o = true) (hN : N ≤ N') : dstOK N' o = true := by
  unfold dstOK at *
  split at h
  · rename_i d hd
    have := blt_iff.1 h
    exact blt_iff.2 (by omega)
  · rfl
theorem allB_mem {α : Type} {p : α → Bool} : ∀ {l : List α}, allB p l = true → ∀ a ∈ l, p a = true
  | [], _, a, ha => by cases ha
  | b :: l, h, a, ha => by
    unfold allB at h
    cases hb : p b with
    | false => rw [hb] at h; cases h
    | true =>
      rw [hb] at h
      cases ha with
      | head => exact hb
      | tail _ ha => exact allB_mem h a ha
variable {ng : Nat}
/-- that what is said of the known functions is so -/
def PrimOK (P : Program) (pr : Prim) : Prop := ∀ f args h v e, pr f args h.get h.next = some (v, e) → Enters P f ∧ ACalls P f args (fun r h' => r = .ret v ∧ h' = e.app h.next h) h
def OrcOK (P : Program) (orc : Orc) : Prop := ∀ f F args hp nx k kp, orc f = some F → F args hp nx k kp = true → Enters P f ∧ ACalls P f args (fun e h => ∃ hp nx, h = hpOf hp nx ∧ (match e with | .ret v => k v hp nx = true | .panic v => ∃ tm, kp v tm hp nx = true)) (hpOf hp nx)
def MtOK (P : Program) (mt : List (Nat × String × Nat)) : Prop := ∀ e ∈ mt, MethOK P e.1 e.2.1 e.2.2
theorem findMt_spec {t g : Nat} {name : String} : ∀ {mt : List (Nat × String × Nat)}, findMt mt t name = some g → (t, name, g) ∈ mt
  | [], h => by cases h
  | (t', n', g') :: l, h => by
    unfold findMt at h
    cases hb : (Nat.beq t' t && decide (n' = name)) with
    | true =>
      rw [hb] at h
      cases h
      simp only [Bool.and_eq_true, Nat.beq_eq, decide_eq_true_eq] at hb
      rw [hb.1, hb.2]
      exact List.mem_cons_self
    | false => rw [hb] at h; exact List.mem_cons_of_mem _ (findMt_spec h)
/-- what was read would be read again, until an effect comes that waited for it -/
def SL (pf : Nat → Bool) (E : Nat → Option TI) (ops : Array Oper) (L : List LE) (l : Array Bool) (h : Hp) : Prop :=
  ∀ e ∈ L, (∀ (j : Nat) (o : Oper), ops[j]? = some o → isFlX pf o.op = false → depB ops ops.size j e.i = true → l.getD j false = false) → opA E (tmv e.tm) h.get 0 e.o.op = some (e.v, .keep)
def QPk (kp : KP) (v : Value) (h : Hp) : Prop := ∃ hp nx, h = hpOf hp nx ∧ kp v none hp nx = true
/-- what the theorem below says, up to a fuel -/
structure Sound (P : Program) (ng : Nat) (mt : List (Nat × String × Nat)) (pr : Prim) (orc : Orc) (n : Nat) : Prop where
  code : ∀ N N' c s k kp, okCode ng N c = true → N < 4000 → N ≤ N' → ev (eeOf P ng mt pr orc) n c s k kp = true → AWp P N' c (QK k kp) s.T s.h
  loop : ∀ N N' b s k kp, okCode ng N b = true → N < 4000 → N ≤ N' → ev (eeOf P ng mt pr orc) n (.loop b) s k kp = true → ARounds P N' b (QK k kp) n s.T s.h
  scope : ∀ N N' b c s k kp, okCode ng N b = true → okCode ng N c = true → N < 4000 → N ≤ N' → evScope (eeOf P ng mt pr orc) n b c s k kp = true → AScope P N' b (QK k kp) n c s.T s.h
  ops : ∀ N N' ops rest s k kp, okOps ng N rest = true → N < 4000 → N ≤ N' → evOps (eeOf P ng mt pr orc) n ops.toList rest s k kp = true → AList P N' ops rest (QK k kp) s.T s.h
  plan : ∀ ops m l p L s k kp, (∀ (i : Nat) (o : Oper), ops[i]? = some o → okL ng o.op.operands.toList = true ∧ (∀ d, o.dst = some d → d < 4000)) → planOf (pureFn (eeOf P ng mt pr orc)) ops m l = some p → (∀ e ∈ L, isFl e.o.op = true) → Closed ops l → SL (pureFn (eeOf P ng mt pr orc)) (eeOf P ng mt pr orc).ty ops L l s.h →
    evPlan (eeOf P ng mt pr orc) n ops.toList p L s k kp = true → DAny P ops (QK k kp) (QPk kp) (SL (pureFn (eeOf P ng mt pr orc)) (eeOf P ng mt pr orc).ty ops L) m l s.T s.h
  call : ∀ f args hp nx k kp, evCall (eeOf P ng mt pr orc) n f args hp nx k kp = true → ACalls P f args (fun e h => ∃ hp nx, h = hpOf hp nx ∧ (match e with | .ret v => k v hp nx = true | .panic v => ∃ tm, kp v tm hp nx = true)) (hpOf hp nx)
theorem QK.mono {k k' : KN} {kp : KP} {e : AEx} {T : Nat → Value} {h : Hp} (hk : ∀ e s, k e s = true → k' e s = true) (q : QK k kp e T h) : QK k' kp e T h := by
  obtain ⟨s, h1, h2⟩ := q
  refine ⟨s, h1, ?_⟩
  cases e <;> first | exact h2 | exact ⟨h2.1, hk _ _ h2.2⟩
end
end Go.Ab
/- The order that is picked for a region that asks for one is as good as each. -/
namespace Go.Ab
open Go.RowKit
section
variable {P : Program} {ng : Nat} {E : Nat → Option TI}
theorem DAny.monoAt {ops : Array Oper} {Q : APost} {QP : Value → Hp → Prop} {S S' : Array Bool → Hp → Prop} {j : Nat} (hS : ∀ l h, l.getD j false = true → S l h → S' l h) :
    ∀ (n : Nat) {l : Array Bool} {T : Nat → Value} {h : Hp}, l.getD j false = true → DAny P ops Q QP S n l T h → DAny P ops Q QP S' n l T h
  | 0, _, _, _, _, p => p
  | n + 1, _, _, _, hl, p => ⟨p.1, fun i hi o ho =>
    have hl' := getD_set_true (i := i) hl
    ⟨fun hw => ((p.2 i hi o ho).1 hw).mono fun _ _ q => ⟨hS _ _ hl' q.1, DAny.monoAt hS n hl' q.2⟩, fun hw => ⟨((p.2 i hi o ho).2 hw).1, hS _ _ hl' ((p.2 i hi o ho).2 hw).2.1, DAny.monoAt hS n hl' ((p.2 i hi o ho).2 hw).2.2⟩⟩⟩
theorem AOne.op (hE : EnvOK P E) {o : Oper} {T : Nat → Value} {h : Hp} {v : Value} {e : HE} (hr : opA E T h.get h.next o.op = some (v, e)) {R RP : Value → Hp → Prop} (p : R v (e.app h.next h)) : AOne P o T h R RP := fun ρ w ev H hv => by
  obtain ⟨ρ', w', u, h1, h2, h3, h4⟩ := opE_sound hE H hv hr H.next_none (Nat.le_refl h.next)
  unfold Raw
  rcases h1 with h1 | ⟨h1, rfl⟩
  · rw [h1]; exact ⟨ρ', v, _, h3, h4, h2, p⟩
  · rw [h1]; exact ⟨ρ', v, _, h3, h4, h2, p⟩
theorem AOne.call {o : Oper} {T : Nat → Value} {h : Hp} {c : Call} {f : Operand} (hop : o.op = .call c) (hc : c.callee = .value f) {g : FuncId} {x y : Array Value} (hf : evo T f = .func (.func g) x y) (hg : Enters P g)
    {R RP : Value → Hp → Prop} (p : ACalls P g (x.toList ++ (evL T c.args.toList ++ y.toList)) (fun e h' => match e with | .ret v => R v h' | .panic v => RP v h') h) : AOne P o T h R RP := fun ρ w ev H hv => by
  simp only [hop, Op.operands, Call.operands, hc, Array.toList_append, List.mem_append] at hv
  have hfv := hv f (.inl (by simp))
  rw [hf] at hfv
  obtain ⟨x', y', h1, h2, h3⟩ := hfv
  have hargs := evL_sound (T := T) (ev := ev) (l := c.args.toList) (fun z hz => hv z (.inr hz))
  have hvs : VRL ρ (x.toList ++ (evL T c.args.toList ++ y.toList)) (x' ++ (c.args.map ev ++ y')).toList := by
    simp only [Array.toList_append, Array.toList_map]
    exact (VRA.iff.1 h2).append (hargs.append (VRA.iff.1 h3))
  have hrun : (execOp ev o).run P w = .ok (.enter g (x' ++ (c.args.map ev ++ y'))) w := by
    have := hg (x' ++ (c.args.map ev ++ y')) w
    simp [execOp, hop, resolve, hc, h1, Deferred.ofValue, invoke] at this ⊢
    exact this
  unfold Raw
  rw [hrun]
  refine (p ρ w _ H hvs).mono ?_
  rintro e w' ⟨e', ρ', h', k1, k2, k3, k4⟩
  cases e' with
  | ret v =>
    obtain ⟨cv, rfl, k5⟩ := k1
    exact ⟨ρ', v, h', k2, k3, k5, k4⟩
  | panic v =>
    obtain ⟨cv, rfl, k5⟩ := k1
    exact ⟨ρ', v, cv, h', rfl, k2, k3, k5, k4⟩
theorem AOne.panic {o : Oper} {T : Nat → Value} {h : Hp} {x : Operand} (hop : o.op = .panic x) {t : Nat} {v : Value} (hx : evo T x = .iface t v) {R RP : Value → Hp → Prop} (q : RP (.iface t v) h) : AOne P o T h R RP := fun ρ w ev H hv => by
  have hv := hv x (by simp [hop, Op.operands])
  rw [hx] at hv
  obtain ⟨v', h1, h2⟩ := hv
  have hrun : (execOp ev o).run P w = .halt (.panic (.iface t v')) w := by simp [execOp, hop, h1, Instr.panic, goPanic]
  unfold Raw
  rw [hrun]
  exact ⟨ρ, .iface t v, .iface t v', h, rfl, H, Fr.refl _ _ _ _, ⟨v', rfl, h2⟩, q⟩
theorem recheck_spec {get : Nat → Option AObj} {deps : List Nat} : ∀ {L L' : List LE}, recheck E get deps L = some L' → (∀ e ∈ L, isFl e.o.op = true) →
    (∀ e ∈ L, memN e.i deps = false → e ∈ L') ∧ (∀ e ∈ L', e ∈ L ∧ opA E (tmv e.tm) get 0 e.o.op = some (e.v, .keep))
  | [], L', h, _ => by cases h; exact ⟨fun e he _ => (by cases he), fun e he => (by cases he)⟩
  | e :: l, L', h, hf => by
    unfold recheck at h
    cases hm : memN e.i deps with
    | true =>
      rw [hm] at h
      obtain ⟨h1, h2⟩ := recheck_spec h fun e he => hf e (List.mem_cons_of_mem _ he)
      refine ⟨fun e' he' hn => ?_, fun e' he' => ⟨List.mem_cons_of_mem _ (h2 e' he').1, (h2 e' he').2⟩⟩
      cases he' with
      | head => rw [hm] at hn; cases hn
      | tail _ he' => exact h1 e' he' hn
    | false =>
      rw [hm] at h
      simp only [cond_false] at h
      split at h
      · rename_i v he hop
        cases hv : veq e.v v with
        | false => rw [hv] at h; cases h
        | true =>
          rw [hv] at h
          simp only [cond_true] at h
          split at h
          · rename_i r hr
            cases h
            obtain ⟨h1, h2⟩ := recheck_spec hr fun e he => hf e (List.mem_cons_of_mem _ he)
            have hk := float_keep (hf e List.mem_cons_self) hop
            subst hk
            have := veq_spec hv
            refine ⟨fun e' he' hn => ?_, fun e' he' => ?_⟩
            · cases he' with
              | head => exact List.mem_cons_self
              | tail _ he' => exact List.mem_cons_of_mem _ (h1 e' he' hn)
            · cases he' with
              | head => exact ⟨List.mem_cons_self, by rw [hop, this]⟩
              | tail _ he' => exact ⟨List.mem_cons_of_mem _ (h2 e' he').1, (h2 e' he').2⟩
          · cases h
      · cases h
end
end Go.Ab
