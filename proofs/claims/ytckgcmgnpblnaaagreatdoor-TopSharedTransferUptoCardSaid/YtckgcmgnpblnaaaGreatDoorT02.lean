/- A part of the proof of a law over a given program: Pure, Pure2. -/
import Derived.Laws.StructEq
import Derived.ChangeKeysEq
import Derived.WalkSpells
import Derived.Test.YtckgcmgnpblnaaaGreatDoorT01
set_option linter.unusedVariables false
set_option linter.unusedSimpArgs false
/- Operations that compute with values alone. -/
namespace Go.Ab
open Go.RowKit
section
variable {P : Program} {ρ : Ren} {h : Hp} {w : World} {E : Nat → Option TI}
theorem VR.int {k : IntKind} {n : Int} {c : Value} (h : VR ρ (.int k n) c) : c = .int k n := h
theorem VR.bool {b : Bool} {c : Value} (h : VR ρ (.bool b) c) : c = .bool b := h
theorem VR.string {s : ByteArray} {c : Value} (h : VR ρ (.string s) c) : c = .string s := h
/- whole numbers -/
def arith (op : BinOp) (k : IntKind) (a b : Int) : Option Value :=
  match op with
  | .add => some (.int k (k.wrap (a + b)))
  | .sub => some (.int k (k.wrap (a - b)))
  | .mul => some (.int k (k.wrap (a * b)))
  | .quo => bif b == 0 then none else some (.int k (k.wrap (a.tdiv b)))
  | .rem => bif b == 0 then none else some (.int k (a.tmod b))
  | .and => some (.int k (k.wrap (BitVec.ofInt k.bits a &&& BitVec.ofInt k.bits b).toNat))
  | .or => some (.int k (k.wrap (BitVec.ofInt k.bits a ||| BitVec.ofInt k.bits b).toNat))
  | .xor => some (.int k (k.wrap (BitVec.ofInt k.bits a ^^^ BitVec.ofInt k.bits b).toNat))
  | .andNot => some (.int k (k.wrap (BitVec.ofInt k.bits a &&& ~~~BitVec.ofInt k.bits b).toNat))
  | .eql => some (.bool (a == b))
  | .neq => some (.bool (a != b))
  | .lss => some (.bool (decide (a < b)))
  | .leq => some (.bool (decide (a ≤ b)))
  | .gtr => some (.bool (decide (b < a)))
  | .geq => some (.bool (decide (b ≤ a)))
  | _ => none
def shiftA (op : BinOp) (k : IntKind) (a b : Int) : Option Value :=
  bif decide (b < 0) then none else
  match op with
  | .shl => some (.int k (k.wrap (a * 2 ^ (min b.toNat k.bits))))
  | .shr => some (.int k (a.fdiv (2 ^ (min b.toNat k.bits))))
  | _ => none
def bytesEq (a b : ByteArray) : Bool := a.data.toList == b.data.toList
def strOp (op : BinOp) (a b : ByteArray) : Option Value :=
  match op with
  | .add => bif Nat.ble (a.size + b.size) 1048576 then some (.string (a ++ b)) else none
  | .eql => some (.bool (bytesEq a b))
  | .neq => some (.bool (!bytesEq a b))
  | .lss => some (.bool (Op.bytesLess a.data.toList b.data.toList))
  | .leq => some (.bool (Op.bytesLess a.data.toList b.data.toList || bytesEq a b))
  | .gtr => some (.bool (!(Op.bytesLess a.data.toList b.data.toList || bytesEq a b)))
  | .geq => some (.bool (!Op.bytesLess a.data.toList b.data.toList))
  | _ => none
def kindEq : IntKind → IntKind → Bool
  | .i8, .i8 | .i16, .i16 | .i32, .i32 | .i64, .i64 | .u8, .u8 | .u16, .u16 | .u32, .u32 | .u64, .u64 => true
  | _, _ => false
theorem kindEq_spec {a b : IntKind} (h : kindEq a b = true) : a = b := by cases a <;> cases b <;> first | rfl | cases h
def eqCells : List Value → List Value → Option Bool
  | [], [] => some true
  | .int k a :: l, .int k' b :: m => bif kindEq k k' then (bif a == b then eqCells l m else some false) else none
  | _, _ => none
/-- each field one whole number's cell, in order -/
def intFields (E : Nat → Option TI) : Nat → List (Nat × Nat) → Bool
  | _, [] => true
  | n, (o, t) :: r => bif Nat.beq o n then (match E t with | some { k := .int _, size := 1, .. } => intFields E (n + 1) r | _ => false) else false
def equalA (E : Nat → Option TI) (t : Nat) (x y : Value) : Option Bool :=
  match x, y with
  | .int k a, .int k' b => (match E t with | some { k := .int _, .. } => bif kindEq k k' then some (a == b) else none | _ => none)
  | .bool a, .bool b => (match E t with | some { k := .bool, .. } => some (a == b) | _ => none)
  | .string a, .string b => (match E t with | some { k := .str, .. } => some (bytesEq a b) | _ => none)
  | .slice a _ _, .slice b _ _ => (match E t, a, b with | some { k := .sl _, .. }, none, b => some b.isNone | some { k := .sl _, .. }, some _, none => some false | _, _, _ => none)
  | .map a, .map b => (match E t, a, b with | some { k := .map _ _, .. }, none, b => some b.isNone | some { k := .map _ _, .. }, some _, none => some false | _, _, _ => none)
  | .pointer a, .pointer b => (match E t, a, b with
    | some { k := .ptr _, .. }, none, b => some b.isNone
    | some { k := .ptr _, .. }, some _, none => some false
    | some { k := .ptr e, .. }, some a, some b => (match E e, Nat.beq a.block b.block with | some { size := _ + 1, .. }, true => some (Nat.beq a.off b.off) | _, _ => none)
    | _, _, _ => none)
  | .nilIface, .iface _ _ => (match E t with | some { k := .ifc _, .. } => some false | _ => none)
  | .iface _ _, .nilIface => (match E t with | some { k := .ifc _, .. } => some false | _ => none)
  | .nilIface, .nilIface => (match E t with | some { k := .ifc true, .. } => some true | _ => none)
  | .agg xs, .agg ys => (match E t with
    | some { k := .st fs, eqok := true, .. } => bif intFields E 0 fs && Nat.beq xs.size fs.length && Nat.beq ys.size fs.length then eqCells xs.toList ys.toList else none
    | some { k := .arr n e, eqok := true, .. } => (match E e with
      | some { k := .int _, size := 1, .. } => bif Nat.beq xs.size n && Nat.beq ys.size n then eqCells xs.toList ys.toList else none
      | _ => none)
    | _ => none)
  | _, _ => none
def binA (E : Nat → Option TI) (op : BinOp) (t : Nat) (x y : Value) : Option Value :=
  match op, x, y with
  | .shl, .int k a, .int _ b | .shr, .int k a, .int _ b => shiftA op k a b
  | _, .int k a, .int k' b => bif kindEq k k' then arith op k a b else none
  | _, .string a, .string b => strOp op a b
  | .eql, x, y => (equalA E t x y).map .bool
  | .neq, x, y => (equalA E t x y).map fun b => .bool (!b)
  | _, _, _ => none
theorem kOf_int {d : TypeDesc} {k : IntKind} (h : K.int k = kOf d) : d = .int k := by cases d <;> first | (cases h; rfl) | cases h
theorem kOf_bool {d : TypeDesc} (h : K.bool = kOf d) : d = .bool := by cases d <;> first | rfl | cases h
theorem kOf_str {d : TypeDesc} (h : K.str = kOf d) : d = .string := by cases d <;> first | rfl | cases h
theorem kOf_sl {d : TypeDesc} {e : Nat} (h : K.sl e = kOf d) : d = .slice e := by cases d <;> first | (cases h; rfl) | cases h
theorem kOf_arr {d : TypeDesc} {n e : Nat} (h : K.arr n e = kOf d) : d = .array n e := by cases d <;> first | (cases h; rfl) | cases h
theorem kOf_ptr {d : TypeDesc} {e : Nat} (h : K.ptr e = kOf d) : d = .pointer e := by cases d <;> first | (cases h; rfl) | cases h
theorem kOf_map {d : TypeDesc} {k e : Nat} (h : K.map k e = kOf d) : d = .map k e := by cases d <;> first | (cases h; rfl) | cases h
theorem kOf_st {d : TypeDesc} {fs : List (Nat × Nat)} (h : K.st fs = kOf d) : ∃ f, d = .struct f ∧ fs = f.toList.map fun f => (f.offset, f.type) := by cases d <;> first | (cases h; exact ⟨_, rfl, rfl⟩) | cases h
theorem kOf_ifc {d : TypeDesc} {b : Bool} (h : K.ifc b = kOf d) : ∃ ms, d = .interface ms ∧ b = ms.isEmpty := by cases d <;> first | (cases h; exact ⟨_, rfl, rfl⟩) | cases h
theorem bytesEq_toList (a b : ByteArray) : bytesEq a b = (a.toList == b.toList) := by rw [ByteArray.toList_eq, ByteArray.toList_eq]; rfl
theorem eqGuard_int (op : BinOp) (t : Nat) (x y : Operand) (k k' : IntKind) (a b : Int) : (eqGuard op t x y (.int k a) (.int k' b)).run P w = .ok () w := by
  unfold eqGuard
  split <;> simp
theorem arith_run {op : BinOp} {k : IntKind} {a b : Int} {r : Value} (t : Nat) (hr : arith op k a b = some r) : (binOp op t (.int k a) (.int k b)).run P w = .ok r w := by
  cases op <;> simp only [arith] at hr <;> first
    | (cases hr; simp [binOp, Op.intArith, Op.intBits, Op.intCmp]; done)
    | (cases hb : (b == 0) with
       | true => rw [hb] at hr; cases hr
       | false =>
         rw [hb] at hr
         cases hr
         have : b ≠ 0 := by simpa using hb
         simp [binOp, Op.intDiv, this])
    | cases hr
theorem shift_run {op : BinOp} {k k' : IntKind} {a b : Int} {r : Value} (t : Nat) (hop : op = .shl ∨ op = .shr) (hr : shiftA op k a b = some r) : (binOp op t (.int k a) (.int k' b)).run P w = .ok r w := by
  unfold shiftA at hr
  cases hb : decide (b < 0) with
  | true => rw [hb] at hr; cases hr
  | false =>
    rw [hb] at hr
    have : ¬ b < 0 := by simpa using hb
    rcases hop with rfl | rfl <;> cases hr <;> simp [binOp, Op.shift, this]
theorem str_add_run {a b : ByteArray} (t : Nat) (h1 : a.size + b.size ≤ 1048576) : (binOp .add t (.string a) (.string b)).run P w = .ok (.string (a ++ b)) w := by
  have h2 : ¬ ((a.size + b.size : Nat) : Int) > IntKind.i64.max := by
    have : IntKind.i64.max = 9223372036854775807 := by decide
    omega
  simp only [binOp, Op.stringOp, h2, if_false]
  rfl
theorem str_run {op : BinOp} {a b : ByteArray} {r : Value} (t : Nat) (hr : strOp op a b = some r) : (binOp op t (.string a) (.string b)).run P w = .ok r w := by
  have e := bytesEq_toList a b
  have e1 : a.data.toList = a.toList := (ByteArray.toList_eq a).symm
  have e2 : b.data.toList = b.toList := (ByteArray.toList_eq b).symm
  cases op <;> simp only [strOp] at hr
  case add =>
    cases hb : Nat.ble (a.size + b.size) 1048576 with
    | false => rw [hb] at hr; cases hr
    | true => rw [hb] at hr; cases hr; exact str_add_run t (Nat.le_of_ble_eq_true hb)
  all_goals first
    | (cases hr; simp [binOp, Op.stringOp, e, e1, e2]; done)
    | cases hr
theorem eqCells_array (d e : Nat) {k : IntKind} (he : P.underlying e = some (.int k)) (hsz : P.cellsOf e = 1) :
    ∀ (n s : Nat) (xs ys : Array Value) (r : Bool), eqCells ((xs.toList.drop s).take n) ((ys.toList.drop s).take n) = some r → s + n ≤ xs.size → s + n ≤ ys.size →
      (Op.eqItems (d + 1) e 1 xs ys (List.range' s n)).run P w = .ok r w
  | 0, s, xs, ys, r, hr, _, _ => by simp [eqCells] at hr; simp [Op.eqItems, hr]
  | n + 1, s, xs, ys, r, hr, hx, hy => by
    have gx : ∃ v, xs[s]? = some v := ⟨_, Array.getElem?_eq_getElem (by omega)⟩
    have gy : ∃ v, ys[s]? = some v := ⟨_, Array.getElem?_eq_getElem (by omega)⟩
    obtain ⟨vx, gx⟩ := gx
    obtain ⟨vy, gy⟩ := gy
    have dx : (xs.toList.drop s).take (n + 1) = vx :: (xs.toList.drop (s + 1)).take n := by
      have := List.drop_eq_getElem_cons (l := xs.toList) (i := s) (by simp; omega)
      rw [this, List.take_succ_cons]
      congr 1
      have := (Array.getElem?_eq_some_iff.1 gx).2
      simpa using this
    have dy : (ys.toList.drop s).take (n + 1) = vy :: (ys.toList.drop (s + 1)).take n := by
      have := List.drop_eq_getElem_cons (l := ys.toList) (i := s) (by simp; omega)
      rw [this, List.take_succ_cons]
      congr 1
      have := (Array.getElem?_eq_some_iff.1 gy).2
      simpa using this
    rw [dx, dy] at hr
    have agg0 : ∀ w, (isAgg e).run P w = .ok false w := fun w => by simp [isAgg, run_underlying he]
    rw [List.range'_succ]
    simp only [Op.eqItems, Sem.run_bind, Nat.mul_one, part, agg0, Result.andThen_ok, Bool.false_eq_true, if_false, gx, gy, Sem.run_pure]
    unfold eqCells at hr
    split at hr
    · rename_i h1 _; cases h1
    · rename_i k1 a l k2 b m h1 h2
      cases h1; cases h2
      cases hk : kindEq k1 k2 with
      | false => rw [hk] at hr; cases hr
      | true =>
        rw [hk] at hr
        cases kindEq_spec hk
        simp only [cond_true] at hr
        rw [run_equalIn_int w d e k1 k a b he]
        simp only [Result.andThen_ok]
        cases hab : (a == b) with
        | false => rw [hab] at hr; cases hr; simp
        | true =>
          rw [hab] at hr
          simpa using eqCells_array d e he hsz n (s + 1) xs ys r hr (by omega) (by omega)
    · cases hr
theorem eqCells_struct (hE : EnvOK P E) (d : Nat) :
    ∀ (fs : List Field) (s : Nat) (xs ys : Array Value) (r : Bool), intFields E s (fs.map fun f => (f.offset, f.type)) = true → (fs.all fun f => f.name != "_") = true →
      eqCells ((xs.toList.drop s).take fs.length) ((ys.toList.drop s).take fs.length) = some r → s + fs.length ≤ xs.size → s + fs.length ≤ ys.size →
      (Op.eqFields (d + 1) xs ys fs).run P w = .ok r w
  | [], s, xs, ys, r, _, _, hr, _, _ => by simp [eqCells] at hr; simp [Op.eqFields, hr]
  | f :: fs, s, xs, ys, r, hf, hn, hr, hx, hy => by
    simp only [List.length_cons] at hx hy hr
    have gx : ∃ v, xs[s]? = some v := ⟨_, Array.getElem?_eq_getElem (by omega)⟩
    have gy : ∃ v, ys[s]? = some v := ⟨_, Array.getElem?_eq_getElem (by omega)⟩
    obtain ⟨vx, gx⟩ := gx
    obtain ⟨vy, gy⟩ := gy
    have dx : (xs.toList.drop s).take (fs.length + 1) = vx :: (xs.toList.drop (s + 1)).take fs.length := by
      have := List.drop_eq_getElem_cons (l := xs.toList) (i := s) (by simp; omega)
      rw [this, List.take_succ_cons]
      congr 1
      have := (Array.getElem?_eq_some_iff.1 gx).2
      simpa using this
    have dy : (ys.toList.drop s).take (fs.length + 1) = vy :: (ys.toList.drop (s + 1)).take fs.length := by
      have := List.drop_eq_getElem_cons (l := ys.toList) (i := s) (by simp; omega)
      rw [this, List.take_succ_cons]
      congr 1
      have := (Array.getElem?_eq_some_iff.1 gy).2
      simpa using this
    rw [dx, dy] at hr
    simp only [List.map_cons, intFields] at hf
    cases ho : Nat.beq f.offset s with
    | false => rw [ho] at hf; cases hf
    | true =>
      rw [ho] at hf
      have ho' := Nat.eq_of_beq_eq_true ho
      simp only [cond_true] at hf
      split at hf
      · rename_i k0 by0 z0 eq0 hi
        obtain ⟨dd, inf, z, hti⟩ := tiOf_spec (hE _ _ hi)
        have he : P.underlying f.type = some (.int k0) := by rw [hti.und, kOf_int hti.k]
        simp only [List.all_cons, Bool.and_eq_true] at hn
        have hname : f.name ≠ "_" := by simpa using hn.1
        have agg0 : ∀ w, (isAgg f.type).run P w = .ok false w := fun w => by simp [isAgg, run_underlying he]
        simp only [Op.eqFields, hname, ne_eq, not_false_eq_true, if_true, Sem.run_bind, part, agg0, Result.andThen_ok, Bool.false_eq_true, if_false, ho', gx, gy, Sem.run_pure]
        unfold eqCells at hr
        split at hr
        · rename_i h1 _; cases h1
        · rename_i k1 a l k2 b m h1 h2
          cases h1; cases h2
          cases hk : kindEq k1 k2 with
          | false => rw [hk] at hr; cases hr
          | true =>
            rw [hk] at hr
            cases kindEq_spec hk
            simp only [cond_true] at hr
            rw [run_equalIn_int w d f.type k1 k0 a b he]
            simp only [Result.andThen_ok]
            cases hab : (a == b) with
            | false => rw [hab] at hr; cases hr; simp
            | true =>
              rw [hab] at hr
              simpa using eqCells_struct hE d fs (s + 1) xs ys r hf hn.2 hr (by omega) (by omega)
        · cases hr
      · cases hf
end
end Go.Ab
/- '==' and the operators, as the program's operations. -/
namespace Go.Ab
open Go.RowKit
section
variable {P : Program} {ρ : Ren} {h : Hp} {w : World} {E : Nat → Option TI}
theorem info_of {t : Nat} {i : TI} {d : TypeDesc} {inf : TypeInfo} {z : Value} (hi : IsTI P t i d inf z) : P.cellsOf t = i.size := by
  have h1 := sizeOf_run (w := default) hi
  rw [run_sizeOf default hi.info] at h1
  injection h1
theorem VR.slice_inv {a : Option Addr} {n k : Nat} {c : Value} (h : VR ρ (.slice a n k) c) : ∃ a' k', c = .slice a' n k' ∧ a'.isNone = a.isNone := by
  cases a with
  | none => exact ⟨none, k, h, rfl⟩
  | some a => obtain ⟨l, _, _, h3⟩ := h; obtain ⟨a', k', rfl⟩ := h3.inv; exact ⟨_, k', rfl, rfl⟩
theorem VR.map_inv {a : Option Nat} {c : Value} (h : VR ρ (.map a) c) : ∃ a', c = .map a' ∧ a'.isNone = a.isNone := by
  cases a with
  | none => exact ⟨none, h, rfl⟩
  | some a => obtain ⟨l, _, rfl⟩ := h; exact ⟨_, rfl, rfl⟩
theorem VR.pointer_inv {a : Option Addr} {c : Value} (h : VR ρ (.pointer a) c) : ∃ a', c = .pointer a' ∧ a'.isNone = a.isNone := by
  cases a with
  | none => exact ⟨none, h, rfl⟩
  | some a => obtain ⟨l, _, _, rfl⟩ := h; exact ⟨_, rfl, rfl⟩
theorem VR.agg_inv {cs : Array Value} {c : Value} (h : VR ρ (.agg cs) c) : ∃ cs', c = .agg cs' ∧ VRL ρ cs.toList cs'.toList := by
  obtain ⟨cs', rfl, h2⟩ := h
  exact ⟨cs', rfl, VRA.iff.1 h2⟩
/-- whole numbers' cells are the same on both sides -/
theorem eqCells_vr : ∀ {xs ys xs' ys' : List Value} {r : Bool}, VRL ρ xs xs' → VRL ρ ys ys' → eqCells xs ys = some r → eqCells xs' ys' = some r
  | [], [], xs', ys', r, hx, hy, hr => by rw [VRL.nil_inv hx, VRL.nil_inv hy]; exact hr
  | x :: xs, y :: ys, xs', ys', r, hx, hy, hr => by
    obtain ⟨x', l, rfl, hx1, hx2⟩ := hx
    obtain ⟨y', m, rfl, hy1, hy2⟩ := hy
    unfold eqCells at hr
    split at hr
    · rename_i h1 _; cases h1
    · rename_i k a l' k' b m' h1 h2
      cases h1; cases h2
      rw [VR.int hx1, VR.int hy1]
      unfold eqCells
      cases hk : kindEq k k' with
      | false => rw [hk] at hr; cases hr
      | true =>
        rw [hk] at hr
        simp only [cond_true] at hr ⊢
        cases hab : (a == b) with
        | false => rw [hab] at hr; exact hr
        | true => rw [hab] at hr; exact eqCells_vr hx2 hy2 hr
    · cases hr
  | [], _ :: _, _, _, _, _, _, hr => by simp [eqCells] at hr
  | _ :: _, [], _, _, _, _, _, hr => by simp [eqCells] at hr
theorem sameAddr_same (b o o' : Nat) : (sameAddr ⟨b, o, none⟩ ⟨b, o', none⟩).run P w = .ok (Nat.beq o o') w := by
  have : ((⟨b, o, none⟩ : Addr) == ⟨b, o', none⟩) = Nat.beq o o' := by
    cases hc : Nat.beq o o' with
    | true => have := Nat.eq_of_beq_eq_true hc; subst this; simp
    | false => simpa using Nat.ne_of_beq_eq_false hc
  unfold sameAddr
  simp only [beq_self_eq_true, if_true, Sem.run_pure, this]
theorem eq_sl_l {t e : Nat} {b : Option Addr} {n k n' k' : Nat} (d : Nat) (hu : P.underlying t = some (.slice e)) : (Op.equalIn (d + 1) t (.slice none n k) (.slice b n' k')).run P w = .ok b.isNone w := by
  rw [Op.equalIn]; simp only [Sem.run_bind, run_underlying hu, Result.andThen_ok, Sem.run_pure]
theorem eq_sl_r {t e : Nat} {a : Addr} {n k n' k' : Nat} (d : Nat) (hu : P.underlying t = some (.slice e)) : (Op.equalIn (d + 1) t (.slice (some a) n k) (.slice none n' k')).run P w = .ok false w := by
  rw [Op.equalIn]; simp only [Sem.run_bind, run_underlying hu, Result.andThen_ok, Sem.run_pure]
theorem eq_mp_l {t e q : Nat} {b : Option Nat} (d : Nat) (hu : P.underlying t = some (.map e q)) : (Op.equalIn (d + 1) t (.map none) (.map b)).run P w = .ok b.isNone w := by
  rw [Op.equalIn]; simp only [Sem.run_bind, run_underlying hu, Result.andThen_ok, Sem.run_pure]
theorem eq_mp_r {t e q : Nat} {a : Nat} (d : Nat) (hu : P.underlying t = some (.map e q)) : (Op.equalIn (d + 1) t (.map (some a)) (.map none)).run P w = .ok false w := by
  rw [Op.equalIn]; simp only [Sem.run_bind, run_underlying hu, Result.andThen_ok, Sem.run_pure]
theorem eq_pt_l {t e : Nat} {b : Option Addr} (d : Nat) (hu : P.underlying t = some (.pointer e)) : (Op.equalIn (d + 1) t (.pointer none) (.pointer b)).run P w = .ok b.isNone w := by
  rw [Op.equalIn]; simp only [Sem.run_bind, run_underlying hu, Result.andThen_ok, Sem.run_pure]
theorem eq_pt_r {t e : Nat} {a : Addr} (d : Nat) (hu : P.underlying t = some (.pointer e)) : (Op.equalIn (d + 1) t (.pointer (some a)) (.pointer none)).run P w = .ok false w := by
  rw [Op.equalIn]; simp only [Sem.run_bind, run_underlying hu, Result.andThen_ok, Sem.run_pure]
theorem eq_pt_same {t e n : Nat} {b o o' : Nat} (d : Nat) (hu : P.underlying t = some (.pointer e)) (hs : (sizeOf e).run P w = .ok (n + 1) w) :
    (Op.equalIn (d + 1) t (.pointer (some ⟨b, o, none⟩)) (.pointer (some ⟨b, o', none⟩))).run P w = .ok (Nat.beq o o') w := by
  rw [Op.equalIn]; simp only [Sem.run_bind, run_underlying hu, Result.andThen_ok, hs, ne_eq, Nat.succ_ne_self, Nat.add_eq_zero_iff, and_false, not_false_eq_true, if_true]
  exact sameAddr_same b o o'
theorem eq_if_l {t u : Nat} {v : Value} {ms : Array (String × TypeId)} (d : Nat) (hu : P.underlying t = some (.interface ms)) : (Op.equalIn (d + 1) t .nilIface (.iface u v)).run P w = .ok false w := by
  rw [Op.equalIn]; simp only [Sem.run_bind, run_underlying hu, Result.andThen_ok, Sem.run_pure]
theorem eq_if_r {t u : Nat} {v : Value} {ms : Array (String × TypeId)} (d : Nat) (hu : P.underlying t = some (.interface ms)) : (Op.equalIn (d + 1) t (.iface u v) .nilIface).run P w = .ok false w := by
  rw [Op.equalIn]; simp only [Sem.run_bind, run_underlying hu, Result.andThen_ok, Sem.run_pure]
theorem eq_if_n {t : Nat} {ms : Array (String × TypeId)} (d : Nat) (hu : P.underlying t = some (.interface ms)) : (Op.equalIn (d + 1) t .nilIface .nilIface).run P w = .ok true w := by
  rw [Op.equalIn]; simp only [Sem.run_bind, run_underlying hu, Result.andThen_ok, Sem.run_pure]
theorem equalIn_sound (hE : EnvOK P E) (D : Nat) {t : Nat} {x y cx cy : Value} {r : Bool} (hx : VR ρ x cx) (hy : VR ρ y cy) (hr : equalA E t x y = some r) :
    (Op.equalIn (D + 2) t cx cy).run P w = .ok r w := by
  unfold equalA at hr
  split at hr
  · rename_i k a k' b
    split at hr
    · rename_i k0 s0 b0 z0 e0 hi
      obtain ⟨d, inf, z, hti⟩ := tiOf_spec (hE _ _ hi)
      rw [VR.int hx, VR.int hy]
      cases hk : kindEq k k' with
      | false => rw [hk] at hr; cases hr
      | true =>
        rw [hk] at hr; cases hr; cases kindEq_spec hk
        exact run_equalIn_int w (D + 1) t k k0 _ _ (by rw [hti.und, kOf_int hti.k])
    · cases hr
  · split at hr
    · rename_i hi
      obtain ⟨d, inf, z, hti⟩ := tiOf_spec (hE _ _ hi)
      cases hr
      rw [VR.bool hx, VR.bool hy]
      exact run_equalIn_bool w (D + 1) t _ _ (by rw [hti.und, kOf_bool hti.k])
    · cases hr
  · split at hr
    · rename_i hi
      obtain ⟨d, inf, z, hti⟩ := tiOf_spec (hE _ _ hi)
      cases hr
      rw [VR.string hx, VR.string hy, bytesEq_toList]
      exact run_equalIn_string w (D + 1) t _ _ (by rw [hti.und, kOf_str hti.k])
    · cases hr
  · obtain ⟨a', k', rfl, ha⟩ := VR.slice_inv hx
    obtain ⟨b', k2', rfl, hb⟩ := VR.slice_inv hy
    split at hr
    · rename_i hi
      obtain ⟨d, inf, z, hti⟩ := tiOf_spec (hE _ _ hi)
      cases hr
      have : a' = none := by cases a' <;> simp_all
      subst this
      rw [← hb]
      exact eq_sl_l _ (by rw [hti.und, kOf_sl hti.k])
    · rename_i hi
      obtain ⟨d, inf, z, hti⟩ := tiOf_spec (hE _ _ hi)
      cases hr
      have : b' = none := by cases b' <;> simp_all
      subst this
      cases a' with
      | none => simp at ha
      | some a' => exact eq_sl_r _ (by rw [hti.und, kOf_sl hti.k])
    · cases hr
  · obtain ⟨a', rfl, ha⟩ := VR.map_inv hx
    obtain ⟨b', rfl, hb⟩ := VR.map_inv hy
    split at hr
    · rename_i hi
      obtain ⟨d, inf, z, hti⟩ := tiOf_spec (hE _ _ hi)
      cases hr
      have : a' = none := by cases a' <;> simp_all
      subst this
      rw [← hb]
      exact eq_mp_l _ (by rw [hti.und, kOf_map hti.k])
    · rename_i hi
      obtain ⟨d, inf, z, hti⟩ := tiOf_spec (hE _ _ hi)
      cases hr
      have : b' = none := by cases b' <;> simp_all
      subst this
      cases a' with
      | none => simp at ha
      | some a' => exact eq_mp_r _ (by rw [hti.und, kOf_map hti.k])
    · cases hr
  · split at hr
    · rename_i hi
      obtain ⟨a', rfl, ha⟩ := VR.pointer_inv hx
      obtain ⟨b', rfl, hb⟩ := VR.pointer_inv hy
      obtain ⟨d, inf, z, hti⟩ := tiOf_spec (hE _ _ hi)
      cases hr
      have : a' = none := by cases a' <;> simp_all
      subst this
      rw [← hb]
      exact eq_pt_l _ (by rw [hti.und, kOf_ptr hti.k])
    · rename_i hi
      obtain ⟨a', rfl, ha⟩ := VR.pointer_inv hx
      obtain ⟨b', rfl, hb⟩ := VR.pointer_inv hy
      obtain ⟨d, inf, z, hti⟩ := tiOf_spec (hE _ _ hi)
      cases hr
      have : b' = none := by cases b' <;> simp_all
      subst this
      cases a' with
      | none => simp at ha
      | some a' => exact eq_pt_r _ (by rw [hti.und, kOf_ptr hti.k])
    · rename_i hi
      split at hr
      · rename_i he hbb
        cases hr
        obtain ⟨d, inf, z, hti⟩ := tiOf_spec (hE _ _ hi)
        obtain ⟨d2, inf2, z2, hti2⟩ := tiOf_spec (hE _ _ he)
        obtain ⟨l, g1, g2, rfl⟩ := hx
        obtain ⟨l2, g3, g4, rfl⟩ := hy
        rw [Nat.eq_of_beq_eq_true hbb, g3] at g1
        cases g1
        have hs := sizeOf_run (w := w) hti2
        have e3 : ∀ a b : Nat, Nat.beq (l.off + a) (l.off + b) = Nat.beq a b := fun a b => by
          cases hc : Nat.beq a b with
          | true => have := Nat.eq_of_beq_eq_true hc; subst this; simp
          | false =>
            have := Nat.ne_of_beq_eq_false hc
            cases hc2 : Nat.beq (l.off + a) (l.off + b) with
            | false => rfl
            | true => have := Nat.eq_of_beq_eq_true hc2; omega
        rw [← e3]
        exact eq_pt_same _ (by rw [hti.und, kOf_ptr hti.k]) hs
      · cases hr
    · cases hr
  · split at hr
    · rename_i hi
      obtain ⟨d, inf, z, hti⟩ := tiOf_spec (hE _ _ hi)
      obtain ⟨v', rfl, _⟩ := hy
      obtain ⟨ms, hd, _⟩ := kOf_ifc hti.k
      cases hr
      have : cx = .nilIface := hx
      subst this
      exact eq_if_l _ (by rw [hti.und, hd])
    · cases hr
  · split at hr
    · rename_i hi
      obtain ⟨d, inf, z, hti⟩ := tiOf_spec (hE _ _ hi)
      obtain ⟨v', rfl, _⟩ := hx
      obtain ⟨ms, hd, _⟩ := kOf_ifc hti.k
      cases hr
      have : cy = .nilIface := hy
      subst this
      exact eq_if_r _ (by rw [hti.und, hd])
    · cases hr
  · split at hr
    · rename_i hi
      obtain ⟨d, inf, z, hti⟩ := tiOf_spec (hE _ _ hi)
      obtain ⟨ms, hd, _⟩ := kOf_ifc hti.k
      cases hr
      have : cx = .nilIface := hx
      subst this
      have : cy = .nilIface := hy
      subst this
      exact eq_if_n _ (by rw [hti.und, hd])
    · cases hr
  · rename_i xs ys
    obtain ⟨xs', rfl, hx2⟩ := VR.agg_inv hx
    obtain ⟨ys', rfl, hy2⟩ := VR.agg_inv hy
    have lx := hx2.length
    have ly := hy2.length
    simp only [Array.length_toList] at lx ly
    split at hr
    · rename_i fs s0 b0 z0 hi
      obtain ⟨d, inf, z, hti⟩ := tiOf_spec (hE _ _ hi)
      obtain ⟨f, hd, hfs⟩ := kOf_st hti.k
      cases hc : (intFields E 0 fs && Nat.beq xs.size fs.length && Nat.beq ys.size fs.length) with
      | false => rw [hc] at hr; cases hr
      | true =>
        rw [hc] at hr
        simp only [cond_true] at hr
        simp only [Bool.and_eq_true, Nat.beq_eq] at hc
        obtain ⟨⟨h1, h2⟩, h3⟩ := hc
        have hq := hti.eqok
        simp only [eqokOf, hti.und, hd] at hq
        have hq' := hq.symm
        simp only [Bool.and_eq_true, Bool.not_eq_true'] at hq'
        have hfo : P.fieldsOf t = f := by simp [Program.fieldsOf, hti.und, hd]
        have hlen : fs.length = f.toList.length := by rw [hfs]; simp
        have hr' := eqCells_vr hx2 hy2 hr
        have hst := eqCells_struct (w := w) hE D f.toList 0 xs' ys' r (by rw [← hfs]; exact h1) hq'.2
          (by simp only [List.drop_zero]
              rw [List.take_of_length_le (by simp; have := hlen; simp at this; omega), List.take_of_length_le (by simp; have := hlen; simp at this; omega)]
              exact hr') (by have := hlen; simp at this; simp; omega) (by have := hlen; simp at this; simp; omega)
        have := run_equalIn_struct (P := P) w (D + 1) t xs' ys' (by rw [hti.und, hd, hfo]) hq'.1.1
        rw [hfo] at this
        exact this.trans hst
    · rename_i n e s0 b0 z0 hi
      split at hr
      · rename_i k0 b1 z1 e1 he
        obtain ⟨d, inf, z, hti⟩ := tiOf_spec (hE _ _ hi)
        obtain ⟨d2, inf2, z2, hti2⟩ := tiOf_spec (hE _ _ he)
        cases hc : (Nat.beq xs.size n && Nat.beq ys.size n) with
        | false => rw [hc] at hr; cases hr
        | true =>
          rw [hc] at hr
          simp only [cond_true] at hr
          simp only [Bool.and_eq_true, Nat.beq_eq] at hc
          have hr' := eqCells_vr hx2 hy2 hr
          have hce : P.cellsOf e = 1 := info_of hti2
          have hst := eqCells_array (w := w) D e (by rw [hti2.und, kOf_int hti2.k]) hce n 0 xs' ys' r
            (by simp only [List.drop_zero]
                rw [List.take_of_length_le (by simp; omega), List.take_of_length_le (by simp; omega)]
                exact hr') (by omega) (by omega)
          have := run_equalIn_array (P := P) w (D + 1) xs' ys' (by rw [hti.und, kOf_arr hti.k]) hti2.info
          rw [hce, List.range_eq_range'] at this
          exact this.trans hst
      · cases hr
    · cases hr
  · cases hr
theorem equalA_sound (hE : EnvOK P E) {t : Nat} {x y cx cy : Value} {r : Bool} (hx : VR ρ x cx) (hy : VR ρ y cy) (hr : equalA E t x y = some r) :
    (Op.equal t cx cy).run P w = .ok r w := equalIn_sound (w := w) hE 9998 hx hy hr
/-- neither two numbers nor two strings -/
def plainPair : Value → Value → Bool
  | .bool _, .bool _ | .slice .., .slice .. | .map _, .map _ | .pointer _, .pointer _ | .nilIface, .nilIface | .nilIface, .iface .. | .iface .., .nilIface | .agg _, .agg _ => true
  | _, _ => false
theorem equalA_forms {t : Nat} {x y cx cy : Value} {r : Bool} (hx : VR ρ x cx) (hy : VR ρ y cy) (hr : equalA E t x y = some r) :
    (∃ k a k' b, x = .int k a ∧ y = .int k' b) ∨ (∃ a b, x = .string a ∧ y = .string b) ∨ plainPair cx cy = true := by
  unfold equalA at hr
  split at hr
  · exact .inl ⟨_, _, _, _, rfl, rfl⟩
  · rw [VR.bool hx, VR.bool hy]; exact .inr (.inr rfl)
  · exact .inr (.inl ⟨_, _, rfl, rfl⟩)
  · obtain ⟨a', k', rfl, ha⟩ := VR.slice_inv hx
    obtain ⟨a', k', rfl, ha⟩ := VR.slice_inv hy
    exact .inr (.inr rfl)
  · obtain ⟨a', rfl, ha⟩ := VR.map_inv hx
    obtain ⟨a', rfl, ha⟩ := VR.map_inv hy
    exact .inr (.inr rfl)
  · obtain ⟨a', rfl, ha⟩ := VR.pointer_inv hx
    obtain ⟨a', rfl, ha⟩ := VR.pointer_inv hy
    exact .inr (.inr rfl)
  · have : cx = .nilIface := hx
    subst this
    obtain ⟨v', rfl, _⟩ := hy; exact .inr (.inr rfl)
  · have : cy = .nilIface := hy
    subst this
    obtain ⟨v', rfl, _⟩ := hx; exact .inr (.inr rfl)
  · have : cx = .nilIface := hx
    subst this
    have : cy = .nilIface := hy
    subst this
    exact .inr (.inr rfl)
  · obtain ⟨xs', rfl, hx2⟩ := VR.agg_inv hx
    obtain ⟨ys', rfl, hy2⟩ := VR.agg_inv hy
    exact .inr (.inr rfl)
  · cases hr
theorem binOp_eql_plain {t : Nat} {x y : Value} {r : Bool} (h : plainPair x y = true) (he : (Op.equal t x y).run P w = .ok r w) :
    (binOp .eql t x y).run P w = .ok (.bool r) w ∧ (binOp .neq t x y).run P w = .ok (.bool (!r)) w := by
  unfold plainPair at h
  split at h <;> first | (cases h; done) | exact ⟨by show ((do pure (.bool (← Op.equal t _ _))) : Sem Value).run P w = _; simp [he], by show ((do pure (.bool (!(← Op.equal t _ _)))) : Sem Value).run P w = _; simp [he]⟩
theorem eqGuardIn_nil {t : Nat} {ms : Array (String × TypeId)} (D : Nat) (hu : P.underlying t = some (.interface ms)) (hms : ms.isEmpty = true) : (Op.eqGuardIn (D + 1) t .nilIface .nilIface).run P w = .ok false w := by
  simp [Op.eqGuardIn, run_underlying hu, hms]
/-- the guard ahead of '==' lets the values by -/
theorem eqGuard_sound (hE : EnvOK P E) {op : BinOp} {t : Nat} {x y cx cy : Value} {r : Bool} (a b : Operand) (hx : VR ρ x cx) (hy : VR ρ y cy) (hr : equalA E t x y = some r) :
    (eqGuard op t a b cx cy).run P w = .ok () w := by
  have key : ∀ cx cy, (cx = .nilIface → cy = .nilIface → False) → (∀ xs ys, cx = .agg xs → cy = .agg ys → P.eqGuardType P.depth t = false) → (eqGuard op t a b cx cy).run P w = .ok () w := by
    intro cx cy h1 h2
    unfold eqGuard
    cases op <;> first
      | rfl
      | (simp only [Bool.not_true, Bool.false_eq_true, if_false]
         split
         · exact (h1 rfl rfl).elim
         · rename_i xs ys
           have := h2 xs ys rfl rfl
           simp [this]
         · rfl)
  by_cases hnn : cx = .nilIface ∧ cy = .nilIface
  · obtain ⟨rfl, rfl⟩ := hnn
    unfold equalA at hr
    split at hr
    all_goals first
      | (exact absurd (VR.int hx) (by simp); done)
      | (exact absurd (VR.bool hx) (by simp); done)
      | (exact absurd (VR.string hx) (by simp); done)
      | (obtain ⟨a', k', h0, ha⟩ := VR.slice_inv hx; cases h0; done)
      | (obtain ⟨a', h0, ha⟩ := VR.map_inv hx; cases h0; done)
      | (obtain ⟨a', h0, ha⟩ := VR.pointer_inv hx; cases h0; done)
      | (obtain ⟨v', h0, _⟩ := hy; cases h0; done)
      | (obtain ⟨v', h0, _⟩ := hx; cases h0; done)
      | (cases hr; done)
      | skip
    split at hr
    · rename_i hi
      obtain ⟨d, inf, z, hti⟩ := tiOf_spec (hE _ _ hi)
      obtain ⟨ms, hd, hms⟩ := kOf_ifc hti.k
      have hg : (Op.eqGuardIn Op.maxDepth t .nilIface .nilIface).run P w = .ok false w := eqGuardIn_nil 9999 (by rw [hti.und, hd]) hms.symm
      unfold eqGuard
      cases op <;> first
        | rfl
        | (simp only [Bool.not_true, Bool.false_eq_true, if_false, Sem.run_ite, Sem.run_bind, hg, Result.andThen_ok, Sem.run_pure]
           simp only [ite_self])
    · cases hr
  · refine key cx cy (fun h1 h2 => hnn ⟨h1, h2⟩) (fun xs ys h1 h2 => ?_)
    subst h1; subst h2
    unfold equalA at hr
    split at hr
    all_goals first
      | (exact absurd (VR.int hx) (by simp); done)
      | (exact absurd (VR.bool hx) (by simp); done)
      | (exact absurd (VR.string hx) (by simp); done)
      | (obtain ⟨a', k', h0, ha⟩ := VR.slice_inv hx; cases h0; done)
      | (obtain ⟨a', h0, ha⟩ := VR.map_inv hx; cases h0; done)
      | (obtain ⟨a', h0, ha⟩ := VR.pointer_inv hx; cases h0; done)
      | (obtain ⟨v', h0, _⟩ := hy; cases h0; done)
      | (obtain ⟨v', h0, _⟩ := hx; cases h0; done)
      | (have h0 : Value.agg xs = .nilIface := hx; cases h0; done)
      | (cases hr; done)
      | skip
    split at hr
    · rename_i hi
      obtain ⟨d, inf, z, hti⟩ := tiOf_spec (hE _ _ hi)
      obtain ⟨f, hd, hfs⟩ := kOf_st hti.k
      have hq := hti.eqok.symm
      simp only [eqokOf, hti.und, hd, Bool.and_eq_true, Bool.not_eq_true'] at hq
      exact hq.1.2
    · rename_i hi
      obtain ⟨d, inf, z, hti⟩ := tiOf_spec (hE _ _ hi)
      have hq := hti.eqok.symm
      simp only [eqokOf, hti.und, kOf_arr hti.k, Bool.not_eq_true'] at hq
      exact hq
    · cases hr
theorem shiftA_int {op : BinOp} {k : IntKind} {a b : Int} {r : Value} (hr : shiftA op k a b = some r) : flat r = true := by
  unfold shiftA at hr
  cases hb : decide (b < 0) with
  | true => rw [hb] at hr; cases hr
  | false =>
    rw [hb] at hr
    simp only [cond_false] at hr
    split at hr <;> cases hr <;> rfl
theorem arith_int {op : BinOp} {k : IntKind} {a b : Int} {r : Value} (hr : arith op k a b = some r) : flat r = true := by
  cases op <;> simp only [arith] at hr <;> first
    | (cases hr; rfl)
    | (cases hb : (b == 0) with
       | true => rw [hb] at hr; cases hr
       | false => rw [hb] at hr; cases hr; rfl)
    | cases hr
theorem strOp_flat {op : BinOp} {a b : ByteArray} {r : Value} (hr : strOp op a b = some r) : flat r = true := by
  cases op <;> simp only [strOp] at hr
  case add =>
    cases hb : Nat.ble (a.size + b.size) 1048576 with
    | false => rw [hb] at hr; cases hr
    | true => rw [hb] at hr; cases hr; rfl
  all_goals first | (cases hr; rfl) | cases hr
theorem binA_sound (hE : EnvOK P E) {op : BinOp} {t : Nat} {x y cx cy r : Value} (a b : Operand) (hx : VR ρ x cx) (hy : VR ρ y cy) (hr : binA E op t x y = some r) :
    (do eqGuard op t a b cx cy; binOp op t cx cy : Sem Value).run P w = .ok r w ∧ VR ρ r r := by
  have eql : ∀ q, (∀ k a k' b, x = .int k a → y = .int k' b → False) → (∀ a b, x = .string a → y = .string b → False) → equalA E t x y = some q →
      ((op = .eql → (do eqGuard op t a b cx cy; binOp op t cx cy : Sem Value).run P w = .ok (.bool q) w) ∧ (op = .neq → (do eqGuard op t a b cx cy; binOp op t cx cy : Sem Value).run P w = .ok (.bool (!q)) w)) := by
    intro q hn1 hn2 h1
    have hg := eqGuard_sound (w := w) (op := op) hE a b hx hy h1
    have hp := equalA_forms hx hy h1
    have hp' : plainPair cx cy = true := by
      rcases hp with ⟨k, a, k', b, e1, e2⟩ | ⟨a, b, e1, e2⟩ | hp
      · exact (hn1 _ _ _ _ e1 e2).elim
      · exact (hn2 _ _ e1 e2).elim
      · exact hp
    have hb := binOp_eql_plain (P := P) (w := w) hp' (equalA_sound (w := w) hE hx hy h1)
    constructor <;> intro e <;> subst e <;> simp only [Sem.run_bind, hg, Result.andThen_ok]
    · exact hb.1
    · exact hb.2
  unfold binA at hr
  split at hr
  · rw [VR.int hx, VR.int hy]
    exact ⟨by simp only [Sem.run_bind, eqGuard_int, Result.andThen_ok]; exact shift_run t (.inl rfl) hr, flat.vr (shiftA_int hr)⟩
  · rw [VR.int hx, VR.int hy]
    exact ⟨by simp only [Sem.run_bind, eqGuard_int, Result.andThen_ok]; exact shift_run t (.inr rfl) hr, flat.vr (shiftA_int hr)⟩
  · rename_i k _ k' _ _ _
    rw [VR.int hx, VR.int hy]
    cases hk : kindEq k k' with
    | false => rw [hk] at hr; cases hr
    | true =>
      rw [hk] at hr
      cases kindEq_spec hk
      exact ⟨by simp only [Sem.run_bind, eqGuard_int, Result.andThen_ok]; exact arith_run t hr, flat.vr (arith_int hr)⟩
  · rw [VR.string hx, VR.string hy]
    refine ⟨?_, flat.vr (strOp_flat hr)⟩
    have : ∀ u v, (eqGuard op t a b (.string u) (.string v)).run P w = .ok () w := fun u v => by unfold eqGuard; cases op <;> rfl
    simp only [Sem.run_bind, this, Result.andThen_ok]; exact str_run t hr
  · rename_i hn1 hn2
    simp only [Option.map_eq_some_iff] at hr
    obtain ⟨q, h1, rfl⟩ := hr
    exact ⟨(eql q (fun k a k' b e1 e2 => hn1 _ _ _ _ e1 e2) (fun a b e1 e2 => hn2 _ _ e1 e2) h1).1 rfl, rfl⟩
  · rename_i hn1 hn2
    simp only [Option.map_eq_some_iff] at hr
    obtain ⟨q, h1, rfl⟩ := hr
    exact ⟨(eql q (fun k a k' b e1 e2 => hn1 _ _ _ _ e1 e2) (fun a b e1 e2 => hn2 _ _ e1 e2) h1).2 rfl, rfl⟩
  · cases hr
end
end Go.Ab
