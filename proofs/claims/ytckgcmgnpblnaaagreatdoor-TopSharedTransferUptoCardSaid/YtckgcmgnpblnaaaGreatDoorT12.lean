/- A part of the proof of a law over a given program: Si, Sh, Dfr3, Odd, See. -/
import Derived.IntWalk
import Derived.Test.YtckgcmgnpblnaaaGreatDoorT10
import Derived.Test.YtckgcmgnpblnaaaGreatDoorT11
set_option linter.unusedVariables false
set_option linter.unusedSimpArgs false
/- What a walk's simp knows; the rules with their premises found by it. -/
namespace Go.Ab
open Go.RowKit
theorem tl_nil (t : Nat) : tl [] t = junk := rfl
theorem addO_eq (n b o : Nat) : addO n ⟨b, o, none⟩ = ⟨b, o + n, none⟩ := rfl
theorem takeN_one (c : List Value) (o : Nat) : takeN 1 (dropN o c) = (c[o]?).toList := by
  rw [takeN_eq, dropN_eq]
  cases h : c[o]? with
  | none =>
    have : c.length ≤ o := by simpa using h
    rw [List.drop_of_length_le this]; rfl
  | some v =>
    have : o < c.length := (List.getElem?_eq_some_iff.1 h).1
    rw [List.drop_eq_getElem_cons this]
    have e := (List.getElem?_eq_some_iff.1 h).2
    simp [e]
theorem fdiv_pos {a b : Int} (h : 0 ≤ b) : a.fdiv b = a / b := Int.fdiv_eq_ediv_of_nonneg a h
theorem goInt_eq (n : Nat) : goInt n = .int .i64 n := rfl
attribute [push_cast] evo evL evP evOpt tl_cons tl_nil putT_tl putT_none keep1 put1 cond_true cond_false app_new app_keep app_put app_take set_loc ov_next ov_loc lk upd loc_inj
attribute [push_cast] List.toList_toArray List.append_nil List.nil_append List.cons_append
attribute [push_cast] opA builtinA binA kindEq shiftA unA convA storeA capA allocA boxA buildA buildSliceA makeSliceA appendA tailOf fieldAddrA indexA fieldA extractA nilA mkIfaceA minmaxA foldA isShift fillA places takeN dropN isAggK pk ones repl zrep
theorem cellsOf_int (k : IntKind) (n : Int) : cellsOf (.int k n) = [.int k n] := rfl
theorem one_int (k : IntKind) (n : Int) : one (.int k n) = true := rfl
theorem known_int (k : IntKind) (n : Int) : known (.int k n) = true := rfl
theorem cellsOf_bool (b : Bool) : cellsOf (.bool b) = [.bool b] := rfl
theorem one_bool (b : Bool) : one (.bool b) = true := rfl
theorem known_bool (b : Bool) : known (.bool b) = true := rfl
theorem cellsOf_string (b : ByteArray) : cellsOf (.string b) = [.string b] := rfl
theorem one_string (b : ByteArray) : one (.string b) = true := rfl
theorem known_string (b : ByteArray) : known (.string b) = true := rfl
theorem cellsOf_pointer (a : Option Addr) : cellsOf (.pointer a) = [.pointer a] := rfl
theorem one_pointer (a : Option Addr) : one (.pointer a) = true := rfl
theorem known_pointer (a : Option Addr) : known (.pointer a) = true := rfl
theorem cellsOf_slice (a : Option Addr) (n c : Nat) : cellsOf (.slice a n c) = [.slice a n c] := rfl
theorem one_slice (a : Option Addr) (n c : Nat) : one (.slice a n c) = true := rfl
theorem known_slice (a : Option Addr) (n c : Nat) : known (.slice a n c) = true := rfl
theorem cellsOf_map (r : Option Nat) : cellsOf (.map r) = [.map r] := rfl
theorem one_map (r : Option Nat) : one (.map r) = true := rfl
theorem known_map (r : Option Nat) : known (.map r) = true := rfl
theorem cellsOf_func (f : Fn) (x y : Array Value) : cellsOf (.func f x y) = [.func f x y] := rfl
theorem one_func (f : Fn) (x y : Array Value) : one (.func f x y) = true := rfl
theorem known_func (f : Fn) (x y : Array Value) : known (.func f x y) = true := rfl
theorem cellsOf_nilFunc  : cellsOf (.nilFunc) = [.nilFunc] := rfl
theorem one_nilFunc  : one (.nilFunc) = true := rfl
theorem known_nilFunc  : known (.nilFunc) = true := rfl
theorem cellsOf_iface (t : Nat) (v : Value) : cellsOf (.iface t v) = [.iface t v] := rfl
theorem one_iface (t : Nat) (v : Value) : one (.iface t v) = true := rfl
theorem known_iface (t : Nat) (v : Value) : known (.iface t v) = true := rfl
theorem cellsOf_nilIface  : cellsOf (.nilIface) = [.nilIface] := rfl
theorem one_nilIface  : one (.nilIface) = true := rfl
theorem known_nilIface  : known (.nilIface) = true := rfl
theorem cellsOf_agg (c : Array Value) : cellsOf (.agg c) = c.toList := rfl
theorem one_agg (c : Array Value) : one (.agg c) = false := rfl
theorem known_agg (c : Array Value) : known (.agg c) = true := rfl
theorem cellsOf_tuple (c : Array Value) : cellsOf (.tuple c) = [.tuple c] := rfl
theorem one_tuple (c : Array Value) : one (.tuple c) = false := rfl
theorem known_tuple (c : Array Value) : known (.tuple c) = true := rfl
attribute [push_cast] cellsOf_int one_int known_int cellsOf_bool one_bool known_bool cellsOf_string one_string known_string cellsOf_pointer one_pointer known_pointer cellsOf_slice one_slice known_slice cellsOf_map one_map known_map cellsOf_func one_func known_func cellsOf_nilFunc one_nilFunc known_nilFunc cellsOf_iface one_iface known_iface cellsOf_nilIface one_nilIface known_nilIface cellsOf_agg one_agg known_agg cellsOf_tuple one_tuple known_tuple
theorem loadA_ptr {E : Nat → Option TI} {get : Nat → Option AObj} {t : Nat} {a : Addr} : loadA E get t (.pointer (some a)) = (match E t with | some i => (match ldN get a i.size with | some cs => pk i.k cs | none => none) | none => none) := by
  unfold loadA
  cases E t <;> rfl
theorem lenA_str {E : Nat → Option TI} {get : Nat → Option AObj} {t : Nat} {s : ByteArray} : lenA E get t (.string s) = (match E t with | some { k := .str, .. } => some (goInt s.size) | some { k := .arr n _, .. } => some (goInt n) | some { k := .ptr a, .. } => (match E a with | some { k := .arr n _, .. } => some (goInt n) | _ => none) | _ => none) := by
  unfold lenA
  cases E t with
  | none => rfl
  | some i => obtain ⟨k, _, _, _, _⟩ := i; cases k <;> rfl
theorem lenA_slice {E : Nat → Option TI} {get : Nat → Option AObj} {t : Nat} {a : Option Addr} {n c : Nat} : lenA E get t (.slice a n c) = (match E t with | some { k := .sl _, .. } => some (goInt n) | some { k := .arr n _, .. } => some (goInt n) | some { k := .ptr a, .. } => (match E a with | some { k := .arr n _, .. } => some (goInt n) | _ => none) | _ => none) := by
  unfold lenA
  cases E t with
  | none => rfl
  | some i => obtain ⟨k, _, _, _, _⟩ := i; cases k <;> rfl
theorem indexAddrA_ptr {E : Nat → Option TI} {t : Nat} {a : Addr} {i : Value} : indexAddrA E t (.pointer (some a)) i = (match E t, natOf i with | some { k := .arr n e, .. }, some i => (match E e with | some { size := sz, .. } => bif Nat.ble (i + 1) n then some (.pointer (some (addO (i * sz) a))) else none | none => none) | _, _ => none) := by
  unfold indexAddrA
  cases E t with
  | none => rfl
  | some x => obtain ⟨k, _, _, _, _⟩ := x; cases k <;> cases natOf i <;> rfl
theorem indexAddrA_slice {E : Nat → Option TI} {t : Nat} {a : Addr} {n c : Nat} {i : Value} : indexAddrA E t (.slice (some a) n c) i = (match E t, natOf i with | some { k := .sl e, .. }, some i => (match E e with | some { size := sz, .. } => bif Nat.ble (i + 1) n then some (.pointer (some (addO (i * sz) a))) else none | none => none) | _, _ => none) := by
  unfold indexAddrA
  cases E t with
  | none => rfl
  | some x => obtain ⟨k, _, _, _, _⟩ := x; cases k <;> cases natOf i <;> rfl
theorem ldN_loc {h : Hp} {U L : List (Nat × AObj)} {k j o n : Nat} : ldN (ov h U L k).get ⟨loc h j, o, none⟩ n = (match lk L j with | some (.cells c _ _) => (let r := takeN n (dropN o c); bif Nat.beq r.length n then some r else none) | _ => none) := by
  unfold ldN
  simp only [ov_loc]
  cases lk L j with
  | none => rfl
  | some o => cases o <;> rfl
theorem tlc_slice0 {get : Nat → Option AObj} {i : TI} : tailCells get i .slice (.slice none 0 0) = some (0, []) := rfl
theorem tlc_slice {get : Nat → Option AObj} {i : TI} {b : Addr} {m c : Nat} : tailCells get i .slice (.slice (some b) m c) = (match ldN get b (m * i.size) with | some cs => some (m, cs) | none => bif Nat.beq m 0 then some (0, []) else none) := rfl
theorem tlc_string {get : Nat → Option AObj} {i : TI} {s : ByteArray} : tailCells get i .string (.string s) = bif Nat.beq i.size 1 then some (s.size, bytesV s.data.toList) else none := rfl
attribute [push_cast] ldN_loc tlc_slice0 tlc_slice tlc_string
attribute [push_cast] loadA_ptr lenA_str lenA_slice indexAddrA_ptr indexAddrA_slice decide_true decide_false Int.add_sub_cancel Nat.zero_add Nat.add_zero
attribute [push_cast] arith wantA gK resL oneV Bool.not_true Bool.not_false Bool.and_false Bool.and_true Bool.false_and Bool.true_and goInt_eq strOp equalA eqCells intFields nth addO_eq
attribute [push_cast] IntWalk.i64_in IntWalk.i64_quo IntWalk.u64_in IntWalk.u8_in IntWalk.i32_in natOf_int bound_none bound_int ble_true ble_false beq_true beq_false blt_true blt_false unk_U unk_small fdiv_pos Int.toNat_natCast IntKind.bits
section
variable {P : Program} {B : Nat} {α : Type} {S : α → (Nat → Value) × Hp} {m : α → Nat} {I : α → Prop} {s : α} {K : (Nat → Value) → Hp → Prop} {Q : APost} {T : Nat → Value} {h : Hp} {i n : Nat} {v : Value}
theorem thenA_normal : thenA K Q .normal T h = K T h := rfl
theorem thenA_exit : thenA K Q (.exit n) T h = Q (.exit n) T h := rfl
theorem thenA_goto : thenA K Q (.goto n) T h = Q (.goto n) T h := rfl
theorem thenA_ret : thenA K Q .ret T h = Q .ret T h := rfl
theorem thenA_panic : thenA K Q (.panic v) T h = Q (.panic v) T h := rfl
theorem blockA_normal : blockA i Q .normal T h = Q .normal T h := rfl
theorem blockA_exit : blockA i Q (.exit n) T h = bif Nat.beq n i then Q .normal T h else Q (.exit n) T h := rfl
theorem blockA_goto : blockA i Q (.goto n) T h = Q (.goto n) T h := rfl
theorem blockA_ret : blockA i Q .ret T h = Q .ret T h := rfl
theorem blockA_panic : blockA i Q (.panic v) T h = Q (.panic v) T h := rfl
theorem roundA_normal : roundA P B S m I s Q .normal T h = ∃ s', I s' ∧ m s' < m s ∧ FadesTo P B T h (S s').1 (S s').2 := rfl
theorem roundA_exit : roundA P B S m I s Q (.exit n) T h = Q (.exit n) T h := rfl
theorem roundA_goto : roundA P B S m I s Q (.goto n) T h = Q (.goto n) T h := rfl
theorem roundA_ret : roundA P B S m I s Q .ret T h = Q .ret T h := rfl
theorem roundA_panic : roundA P B S m I s Q (.panic v) T h = Q (.panic v) T h := rfl
end
attribute [push_cast] thenA_normal thenA_exit thenA_goto thenA_ret thenA_panic blockA_normal blockA_exit blockA_goto blockA_ret blockA_panic roundA_normal roundA_exit roundA_goto roundA_ret roundA_panic Nat.min_eq_left
attribute [push_cast] List.length_cons List.length_nil ov_low0 set_low mkIfaceA typeAssertA notIfc
/-- an order by its numbers: does the operation leave the heap as it is? -/
def stepsOf (ops : Array Oper) : List (Nat × Bool) → List PStep
  | [] => []
  | (i, b) :: l => (match nth ops.toList i with | some o => (bif b then .fl i o else .ef i o (depsOf ops i)) :: stepsOf ops l | none => stepsOf ops l)
theorem CWp.drawI {P : Program} {ng B N : Nat} {Q : APost} {T : Nat → Value} {h : Hp} (X : Good P ng) (pf : Nat → Bool) {id : Nat} {ops : Array Oper} (l : List (Nat × Bool)) (hp : planOf pf ops ops.size (Array.replicate ops.size false) = some (stepsOf ops l))
    (hQ : ∀ v T h, Q (.panic v) (tl []) h → Q (.panic v) T h) (q : PL P ops.toList Q (fun v h => Q (.panic v) (tl []) h) (stepsOf ops l) [] T h) : CWp P ng B N (.region id ops true) Q T h :=
  CWp.draw pf X hp hQ q
end Go.Ab
/- The rules of a walk, with the tactics that meet their conditions. -/
namespace Go.Ab
open Go.RowKit
theorem isSome_enters {P : Program} {f : Nat} (h : (match P.funcs[f]? with | some fn => (match fn.body with | some _ => !(fn.name == "runtime.NumGoroutine") | none => false) | none => false) = true) : Enters P f := by
  intro args w
  split at h
  · rename_i fn hf
    split at h
    · rename_i c hb
      have hn : ¬ (fn.name = "runtime.NumGoroutine") := by simpa using h
      simp [callFunc, hf, hb, hn]
    · cases h
  · cases h
section
variable {P : Program} {ng B N : Nat} {Q : APost} {T T' : Nat → Value} {h h' : Hp}
theorem CWp.cnd {c : Operand} {x y : Code} (X : Good P ng) {t : Bool} (p1 : t = true → CWp P ng B N x Q T h) (p2 : t = false → CWp P ng B N y Q T h)
    (hc : evo T c = .bool t := by simp (disch := omega) only [push_cast, reduceIte, Nat.reduceEqDiff, beq_self_eq_true, bne_self_eq_false, Int.reduceBEq, Int.reduceBNe, Int.reduceLT, Int.reduceLE, Nat.reduceAdd, Nat.reduceMul, Nat.reduceSub, Int.reduceToNat, Nat.reducePow, Int.reducePow, *] <;> exact rfl) : CWp P ng B N (.cond c x y) Q T h := CWp.cond X hc p1 p2
section
variable {ops : List Oper} {o : Oper} {rest : List Oper}
theorem RL.k (p : RL P ng N ops rest Q T' h) (hw : wantA ops T o = false := by first | exact rfl | (simp only [push_cast, reduceIte, Nat.reduceEqDiff, *]; done) | (simp only [push_cast, reduceIte, Nat.reduceEqDiff, *]; exact rfl))
    (hk : gK ops T o = true := by first | exact rfl | (simp only [push_cast, reduceIte, Nat.reduceEqDiff, *]; done) | (simp only [push_cast, reduceIte, Nat.reduceEqDiff, *]; exact rfl))
    (hT : putT T o.dst undef = T' := by simp only [push_cast] <;> exact rfl) : RL P ng N ops (o :: rest) Q T h := RL.skip hw hk hT p
theorem RL.w {v : Value} {e : HE} (X : Good P ng) (p : RL P ng N ops rest Q T' h')
    (hw : wantA ops T o = true := by first | exact rfl | (simp only [push_cast, reduceIte, Nat.reduceEqDiff, *]; done) | (simp only [push_cast, reduceIte, Nat.reduceEqDiff, *]; exact rfl))
    (hr : opA (tiOf P) T h.get h.next o.op = some (v, e) := by simp (disch := omega) only [push_cast, reduceIte, Nat.reduceEqDiff, beq_self_eq_true, bne_self_eq_false, Int.reduceBEq, Int.reduceBNe, Int.reduceLT, Int.reduceLE, Nat.reduceAdd, Nat.reduceMul, Nat.reduceSub, Int.reduceToNat, Nat.reducePow, Int.reducePow, *] <;> exact rfl)
    (hT : putT T o.dst v = T' := by simp only [push_cast] <;> exact rfl)
    (hh : e.app h.next h = h' := by simp (disch := omega) only [push_cast, reduceIte, Nat.reduceEqDiff, Nat.reduceAdd] <;> exact rfl) : RL P ng N ops (o :: rest) Q T h := RL.op X hw hr hT hh p
theorem RL.c {c : Call} {f : Operand} {g : FuncId} {x y : Array Value} {as : List Value} {R : AEnd → Hp → Prop} (X : Good P ng)
    (K : ACalls P g as R h) (hv : ∀ v h', R (.ret v) h' → RL P ng N ops rest Q (putT T o.dst v) h') (hp : ∀ v h', R (.panic v) h' → Q (.panic v) T h')
    (hw : wantA ops T o = true := by first | exact rfl | (simp only [push_cast, reduceIte, Nat.reduceEqDiff, *]; done) | (simp only [push_cast, reduceIte, Nat.reduceEqDiff, *]; exact rfl))
    (hop : o.op = .call c := by exact rfl) (hc : c.callee = .value f := by exact rfl)
    (hf : evo T f = .func (.func g) x y := by simp (disch := omega) only [push_cast, reduceIte, Nat.reduceEqDiff, beq_self_eq_true, bne_self_eq_false, Int.reduceBEq, Int.reduceBNe, Int.reduceLT, Int.reduceLE, Nat.reduceAdd, Nat.reduceMul, Nat.reduceSub, Int.reduceToNat, Nat.reducePow, Int.reducePow, *] <;> exact rfl)
    (hg : Enters P g := by exact isSome_enters (by kernel_rfl))
    (ha : x.toList ++ evL T c.args.toList ++ y.toList = as := by simp (disch := omega) only [push_cast, reduceIte, Nat.reduceEqDiff, beq_self_eq_true, bne_self_eq_false, Int.reduceBEq, Int.reduceBNe, Int.reduceLT, Int.reduceLE, Nat.reduceAdd, Nat.reduceMul, Nat.reduceSub, Int.reduceToNat, Nat.reducePow, Int.reducePow, *] <;> exact rfl) : RL P ng N ops (o :: rest) Q T h :=
  RL.call X hw hop hc hf hg ha K hv hp
end
section
variable {ops : List Oper} {o : Oper} {QP : Value → Hp → Prop} {p : List PStep} {L : List LP} {i : Nat} {deps : List Nat}
theorem PL.w {v : Value} (q : PL P ops Q QP p (bif pureOp o.op then L else ⟨i, o, T, v⟩ :: L) T' h)
    (hw : wantA ops T o = true := by first | exact rfl | (simp only [push_cast, reduceIte, Nat.reduceEqDiff, *]; done) | (simp only [push_cast, reduceIte, Nat.reduceEqDiff, *]; exact rfl))
    (hr : opA (tiOf P) T h.get h.next o.op = some (v, .keep) := by simp (disch := omega) only [push_cast, reduceIte, Nat.reduceEqDiff, beq_self_eq_true, bne_self_eq_false, Int.reduceBEq, Int.reduceBNe, Int.reduceLT, Int.reduceLE, Nat.reduceAdd, Nat.reduceMul, Nat.reduceSub, Int.reduceToNat, Nat.reducePow, Int.reducePow, *] <;> exact rfl)
    (hT : putT T o.dst v = T' := by simp only [push_cast] <;> exact rfl) : PL P ops Q QP (.fl i o :: p) L T h := PL.fl hw hr hT q
theorem PL.wk (q : PL P ops Q QP p L T' h) (hw : wantA ops T o = false := by first | exact rfl | (simp only [push_cast, reduceIte, Nat.reduceEqDiff, *]; done) | (simp only [push_cast, reduceIte, Nat.reduceEqDiff, *]; exact rfl))
    (hk : gK ops T o = true := by first | exact rfl | (simp only [push_cast, reduceIte, Nat.reduceEqDiff, *]; done) | (simp only [push_cast, reduceIte, Nat.reduceEqDiff, *]; exact rfl))
    (hT : putT T o.dst undef = T' := by simp only [push_cast] <;> exact rfl) : PL P ops Q QP (.fl i o :: p) L T h := PL.flskip hw hk hT q
theorem PL.ewk (q : PL P ops Q QP p L T' h) (hw : wantA ops T o = false := by first | exact rfl | (simp only [push_cast, reduceIte, Nat.reduceEqDiff, *]; done) | (simp only [push_cast, reduceIte, Nat.reduceEqDiff, *]; exact rfl))
    (hk : gK ops T o = true := by first | exact rfl | (simp only [push_cast, reduceIte, Nat.reduceEqDiff, *]; done) | (simp only [push_cast, reduceIte, Nat.reduceEqDiff, *]; exact rfl))
    (hT : putT T o.dst undef = T' := by simp only [push_cast] <;> exact rfl) : PL P ops Q QP (.ef i o deps :: p) L T h := PL.efskip hw hk hT q
theorem PL.ew {v : Value} {e : HE} (q : PL P ops Q QP p (left deps L) T' h')
    (hw : wantA ops T o = true := by first | exact rfl | (simp only [push_cast, reduceIte, Nat.reduceEqDiff, *]; done) | (simp only [push_cast, reduceIte, Nat.reduceEqDiff, *]; exact rfl))
    (hr : opA (tiOf P) T h.get h.next o.op = some (v, e) := by simp (disch := omega) only [push_cast, reduceIte, Nat.reduceEqDiff, beq_self_eq_true, bne_self_eq_false, Int.reduceBEq, Int.reduceBNe, Int.reduceLT, Int.reduceLE, Nat.reduceAdd, Nat.reduceMul, Nat.reduceSub, Int.reduceToNat, Nat.reducePow, Int.reducePow, *] <;> exact rfl)
    (hT : putT T o.dst v = T' := by simp only [push_cast] <;> exact rfl)
    (hh : e.app h.next h = h' := by simp (disch := omega) only [push_cast, reduceIte, Nat.reduceEqDiff, Nat.reduceAdd] <;> exact rfl)
    (hre : ReF P h' deps L := by ((repeat (first | refine ReF.dep (by exact rfl) ?_ | (apply ReF.op; (· (simp (disch := omega) only [push_cast, reduceIte, Nat.reduceEqDiff, beq_self_eq_true, bne_self_eq_false, Int.reduceBEq, Int.reduceBNe, Int.reduceLT, Int.reduceLE, Nat.reduceAdd, Nat.reduceMul, Nat.reduceSub, Int.reduceToNat, Nat.reducePow, Int.reducePow, *] <;> exact rfl))))); exact ReF.nil)) : PL P ops Q QP (.ef i o deps :: p) L T h := PL.ef hw hr hT hh hre q
end
end
theorem rtB {P : Program} {h0 h : Hp} {res : List ResultVar} {Q : AEnd → Hp → Prop} {T : Nat → Value} {r : List Value} (q : EndB P h0 Q (.ret (oneV r)) h)
    (hr : resL (tiOf P) T h.get res = some r := by simp (disch := omega) only [push_cast, reduceIte, Nat.reduceEqDiff, beq_self_eq_true, bne_self_eq_false, Int.reduceBEq, Int.reduceBNe, Int.reduceLT, Int.reduceLE, Nat.reduceAdd, Nat.reduceMul, Nat.reduceSub, Int.reduceToNat, Nat.reducePow, Int.reducePow, *] <;> exact rfl) : bodyB P h0 res Q .ret T h := ⟨r, hr, .inl q⟩
theorem nmB {P : Program} {h0 h : Hp} {res : List ResultVar} {Q : AEnd → Hp → Prop} {T : Nat → Value} {r : List Value} (q : EndB P h0 Q (.ret (oneV r)) h)
    (hr : resL (tiOf P) T h.get res = some r := by simp (disch := omega) only [push_cast, reduceIte, Nat.reduceEqDiff, beq_self_eq_true, bne_self_eq_false, Int.reduceBEq, Int.reduceBNe, Int.reduceLT, Int.reduceLE, Nat.reduceAdd, Nat.reduceMul, Nat.reduceSub, Int.reduceToNat, Nat.reducePow, Int.reducePow, *] <;> exact rfl) : bodyB P h0 res Q .normal T h := ⟨r, hr, .inl q⟩
theorem rtQ {P : Program} {h0 h : Hp} {res : List ResultVar} {Q : AEnd → Hp → Prop} {T : Nat → Value} {r : List Value} (q : Q (.ret (oneV r)) h)
    (hr : resL (tiOf P) T h.get res = some r := by simp (disch := omega) only [push_cast, reduceIte, Nat.reduceEqDiff, beq_self_eq_true, bne_self_eq_false, Int.reduceBEq, Int.reduceBNe, Int.reduceLT, Int.reduceLE, Nat.reduceAdd, Nat.reduceMul, Nat.reduceSub, Int.reduceToNat, Nat.reducePow, Int.reducePow, *] <;> exact rfl) : bodyB P h0 res Q .ret T h := ⟨r, hr, .inr q⟩
theorem nmQ {P : Program} {h0 h : Hp} {res : List ResultVar} {Q : AEnd → Hp → Prop} {T : Nat → Value} {r : List Value} (q : Q (.ret (oneV r)) h)
    (hr : resL (tiOf P) T h.get res = some r := by simp (disch := omega) only [push_cast, reduceIte, Nat.reduceEqDiff, beq_self_eq_true, bne_self_eq_false, Int.reduceBEq, Int.reduceBNe, Int.reduceLT, Int.reduceLE, Nat.reduceAdd, Nat.reduceMul, Nat.reduceSub, Int.reduceToNat, Nat.reducePow, Int.reducePow, *] <;> exact rfl) : bodyB P h0 res Q .normal T h := ⟨r, hr, .inr q⟩
/-- what happens behind a part of the code, by how it ended -/
theorem qA : type_of% (And.intro @cond_true.{1} (And.intro @cond_false.{1} (And.intro @beq_true (And.intro @beq_false (And.intro @thenA_normal (And.intro @thenA_exit (And.intro @thenA_goto (And.intro @thenA_ret (And.intro @thenA_panic (And.intro @blockA_normal (And.intro @blockA_exit (And.intro @blockA_goto (And.intro @blockA_ret (And.intro @blockA_panic (And.intro @roundA_normal (And.intro @roundA_exit (And.intro @roundA_goto (And.intro @roundA_ret @roundA_panic)))))))))))))))))) := And.intro @cond_true.{1} (And.intro @cond_false.{1} (And.intro @beq_true (And.intro @beq_false (And.intro @thenA_normal (And.intro @thenA_exit (And.intro @thenA_goto (And.intro @thenA_ret (And.intro @thenA_panic (And.intro @blockA_normal (And.intro @blockA_exit (And.intro @blockA_goto (And.intro @blockA_ret (And.intro @blockA_panic (And.intro @roundA_normal (And.intro @roundA_exit (And.intro @roundA_goto (And.intro @roundA_ret @roundA_panic)))))))))))))))))
end Go.Ab
/- Functions that defer a recovering closure, walked with symbols. -/
namespace Go.Ab
open Go.RowKit
section
variable {P : Program} {N : Nat} {Q : APost} {T T' : Nat → Value} {h : Hp}
theorem ACalls.fade {f : FuncId} {args : List Value} {R : AEnd → Hp → Prop} (p : ACalls P f args (EndB P h R) h) : ACalls P f args R h := fun ρ w cs H hv =>
  (p ρ w cs H hv).mono fun en w' ⟨e', ρ', h', k1, k2, k3, k4⟩ => by
    obtain ⟨e2, ρ2, h2, a, b, c, d⟩ := k4.ends k2 k1
    exact ⟨e2, ρ2, h2, a, b, k3.trans c (Nat.le_refl _), d⟩
theorem ACalls.entry {f : FuncId} {args : List Value} {R : AEnd → Hp → Prop} (p : Entry P h → (∀ v ∈ args, SV h v) → ACalls P f args R h) : ACalls P f args R h := fun ρ w cs H hv =>
  p H.entry (fun v hm => by
    obtain ⟨i, hi⟩ := List.getElem?_of_mem hm
    obtain ⟨c, _, h2⟩ := hv.get i v hi
    exact SV.of_vr H v c h2) ρ w cs H hv
theorem AWp.ofB {c : Code} (p : BWp P h.next N c Q T h) : AWp P N c Q T h := fun r ρ w a H ht => p (Nat.le_refl _) r ρ w a H ht
theorem AWp.entry {c : Code} (p : Entry P h → AWp P N c Q T h) : AWp P N c Q T h := fun r ρ w a H ht => p H.entry r ρ w a H ht
/-- temporaries may be forgotten -/
theorem AWp.weaken {c : Code} (ht : ∀ t, T' t = T t ∨ T' t = junk) (p : AWp P N c Q T' h) : AWp P N c Q T h := fun r ρ w a H hT => p r ρ w a H ⟨hT.1, fun t => by
  rcases ht t with e | e
  · rw [e]; exact hT.2 t
  · rw [e]; exact trivial⟩
theorem AWp.walk {ng : Nat} {c : Code} {TL : List (Nat × Value)} (hok : okCode ng N c = true) (p : Entry P h → CWp P ng h.next N c Q (tl TL) (ov h [] [] 0)) : AWp P N c Q (tl TL) h :=
  .entry fun En => .ofB (by have := p En hok; rwa [ov_self En.lt] at this)
theorem AWp.region' {id : Nat} {ops : Array Oper} {ng : Nat} (hok : okOps ng N ops.toList = true) (p : RL P ng N ops.toList ops.toList Q T h) : AWp P N (.region id ops false) Q T h := AWp.region (p hok)
theorem ARec.mono {g : FuncId} {args : List Value} {pv : Option Value} {R R' : Hp → Prop} (hr : ∀ h', R h' → R' h') (p : ARec P g args pv R h) : ARec P g args pv R' h := fun ρ w cs u H hv hu =>
  CallsD.mono' (fun e u' w' ⟨ρ', h', a, b, c, d, e⟩ => ⟨ρ', h', a, b, c, d, hr _ e⟩) (p ρ w cs u H hv hu)
theorem argT_tl (args : List Value) : ∀ t, tl (argsL args 0) t = argT args t ∨ tl (argsL args 0) t = junk := fun t => by
  unfold tl
  rw [lk_argsL, if_neg (by omega), Nat.sub_zero, argT_eq]
  cases args[t]? with
  | none => exact .inr rfl
  | some v => exact .inl rfl
theorem tl_put {T : Nat → Value} {L : List (Nat × Value)} (h : ∀ t, tl L t = T t ∨ tl L t = junk) (d : Nat) (v : Value) : ∀ t, tl ((d, v) :: L) t = putT T (some d) v t ∨ tl ((d, v) :: L) t = junk := fun t => by
  rw [tl_cons]
  simp only [putT]
  by_cases e : d = t
  · rw [if_pos e, if_pos e.symm]; exact .inl rfl
  · rw [if_neg e, if_neg (fun x => e x.symm)]; exact h t
theorem AWpX.weaken {c : Code} {Q : XPost} {D : List ADef} (ht : ∀ t, T' t = T t ∨ T' t = junk) (p : AWpX P N c Q T' h D) : AWpX P N c Q T h D := fun ρ w a H hT hd => p ρ w a H ⟨hT.1, fun t => by
  rcases ht t with e | e
  · rw [e]; exact hT.2 t
  · rw [e]; exact trivial⟩ hd
end
end Go.Ab
/- Operations on unsafe.Pointer, each by itself. -/
namespace Go.Ab
open Go.RowKit
section
variable {P : Program} {ρ : Ren} {h : Hp} {w : World}
theorem shape_cells {l : Nat} {cc : Array Value} {e : TypeId} {fr : Nat × Nat} (hc : w.heap[l]? = some (.cells cc e fr)) : w.shape? l = some (e, cc.size) := by
  unfold World.shape?; rw [hc]
theorem cvtUp_run {src dst t : TypeId} {l off : Nat} {cc : Array Value} {e : TypeId} {fr : Nat × Nat} {n : Nat} (h1 : P.underlying src = some (.pointer t)) (h2 : P.underlying dst = some .unsafePointer) (hs : ∀ w, (sizeOf t).run P w = .ok (n + 1) w) (hc : w.heap[l]? = some (.cells cc e fr)) (ho : off < cc.size) :
    (convert src dst (.pointer (some ⟨l, off, none⟩))).run P w = .ok (.pointer (some ⟨l, off, none⟩)) w := by
  have hsh := shape_cells hc
  unfold convert
  simp [run_underlying h1, run_underlying h2, Conv.unsafePointer, Conv.seenAt, viewAt, hsh, cellsIn, hs, show ¬ cc.size ≤ off by omega]
theorem cvtDown_run {src dst t : TypeId} {l off : Nat} {cc : Array Value} {e : TypeId} {fr : Nat × Nat} {n : Nat} (h1 : P.underlying src = some .unsafePointer) (h2 : P.underlying dst = some (.pointer t)) (hs : ∀ w, (sizeOf t).run P w = .ok (n + 1) w) (hc : w.heap[l]? = some (.cells cc e fr)) (hl : liesAt P P.depth e (cc.size / P.cellsOf e) off t 1 = true) :
    (convert src dst (.pointer (some ⟨l, off, none⟩))).run P w = .ok (.pointer (some ⟨l, off, none⟩)) w := by
  have hsh := shape_cells hc
  unfold convert
  simp [run_underlying h1, run_underlying h2, Conv.unsafePointer, Conv.seenAt, viewAt, hsh, hs, variablesAt, hl]
theorem AOne.cvt {o : Oper} {T : Nat → Value} {src dst : TypeId} {x : Operand} {i : Nat} {R RP : Value → Hp → Prop} (hop : o.op = .convert src dst x) (hx : evo T x = .pointer (some ⟨i, 0, none⟩)) (q : R (.pointer (some ⟨i, 0, none⟩)) h)
    (run : ∀ ρ w l, HR P ρ h w → ρ i = some l → (convert src dst (.pointer (some ⟨l.blk, l.off, none⟩))).run P w = .ok (.pointer (some ⟨l.blk, l.off, none⟩)) w) : AOne P o T h R RP := fun ρ w ev H hv => by
  have hxv := hv x (by simp [hop, Op.operands])
  rw [hx] at hxv
  obtain ⟨l, g1, g2, g3⟩ := id hxv
  have g3 : ev x = .pointer (some ⟨l.blk, l.off, none⟩) := g3
  have hr := run ρ w l H g1
  unfold Raw
  simp only [execOp, hop]
  rw [g3]
  simp [hr]
  exact ⟨ρ, _, h, H, Fr.refl _ _ _ _, g3 ▸ hxv, q⟩
theorem AList.raw {ng N : Nat} {ops : Array Oper} {o : Oper} {rest : List Oper} {Q : APost} {T : Nat → Value} (hng : ng ≤ P.globals.size) (hd : dstOK N o = true) (hw : wantA ops.toList T o = true) (hok : okL ng o.op.operands.toList = true)
    (p : AOne P o T h (fun v h' => AList P N ops rest Q (putT T o.dst v) h') (fun v h' => Q (.panic v) T h')) : AList P N ops (o :: rest) Q T h := fun fr ρ0 h0 w0 ρ w a H F ht => by
  unfold wpListIn
  rw [wantA_eq ht o (gK_of_want hw), hw, if_pos rfl]
  refine (Raw.wp ((p ρ w a.eval H (fun x hx => evo_sound H hng ht (okL_mem hok x hx))).mono ?_ ?_))
  · rintro c w' ⟨ρ', v, h', k1, k2, k3, k4⟩
    have := k4 fr ρ0 h0 w0 ρ' w' (a.put o.dst c) k1 (F.trans k2 F.next) ((ht.mono (k2.ren H)).put (dstOK_spec hd) k3)
    rw [Act.put_defers] at this
    exact this
  · rintro ch w' ⟨ρ', v, c, h', rfl, k1, k2, k3, k4⟩
    exact ⟨.panic v, ρ', T, h', ⟨c, rfl, k3⟩, k1, F.trans k2 F.next, ht.mono (k2.ren H), rfl, k4⟩
theorem RL.raw {ng N : Nat} {ops : List Oper} {o : Oper} {rest : List Oper} {Q : APost} {T : Nat → Value} (X : Good P ng) (hw : wantA ops T o = true) (p : AOne P o T h (fun v h' => RL P ng N ops rest Q (putT T o.dst v) h') (fun v h' => Q (.panic v) T h')) : RL P ng N ops (o :: rest) Q T h := fun hok => by
  obtain ⟨a, b, c⟩ := RL.cons_ok hok
  exact AList.raw X.ng b hw a (p.mono fun v h' q => q c)
end
theorem lies_head {P : Program} {e : TypeId} {k : Nat} (hc : P.cellsOf e = k + 1) (count n : Nat) (hn : n ≤ count) : liesAt P P.depth e count 0 e n = true := by
  have hd : P.depth = (2 * (P.types.size + Made.depth) + 1) + 1 := rfl
  rw [hd]
  simp only [liesAt, Bool.or_eq_true]
  left
  rw [hd]
  simp [rowAt, hc, hn, sameLayout]
end Go.Ab
/- What is seen in memory: values in places; what a look at them, or a mark, does to a heap. -/
namespace Go.Ab
open Go.RowKit
def cellOf (h : Hp) (b o : Nat) : Option Value := match h.get b with | some (.cells c _ _) => c[o]? | _ => none
inductive SeeTy where
  | int | bool | str
  | seq (a : SeeTy) (k : Nat) (c : SeeTy)
  | sl (sz : Nat) (e : SeeTy)
def catN {α : Type} (f : Nat → List α) : Nat → List α
  | 0 => []
  | n + 1 => catN f n ++ f n
/-- what is seen at a place -/
def Rep (h : Hp) : SeeTy → Nat → Nat → List Int → List ByteArray → Prop
  | .int, b, o, ns, ss => ∃ x, cellOf h b o = some (.int .i64 x) ∧ ns = [x] ∧ ss = []
  | .bool, b, o, ns, ss => ∃ t, cellOf h b o = some (.bool t) ∧ ns = [bif t then 1 else 0] ∧ ss = []
  | .str, b, o, ns, ss => ∃ s, cellOf h b o = some (.string s) ∧ ns = [] ∧ ss = [s]
  | .seq a k c, b, o, ns, ss => ∃ n1 s1 n2 s2, Rep h a b o n1 s1 ∧ Rep h c b (o + k) n2 s2 ∧ ns = n1 ++ n2 ∧ ss = s1 ++ s2
  | .sl sz e, b, o, ns, ss => (cellOf h b o = some (.slice none 0 0) ∧ ns = [0] ∧ ss = []) ∨
      ∃ b2 o2 n c, cellOf h b o = some (.slice (some ⟨b2, o2, none⟩) n c) ∧ ∃ (f : Nat → List Int) (g : Nat → List ByteArray), (∀ j, j < n → Rep h e b2 (o2 + j * sz) (f j) (g j)) ∧ ns = (n : Int) :: catN f n ∧ ss = catN g n
/-- the places that are seen -/
def Foot (h : Hp) : SeeTy → Nat → Nat → Nat → Nat → Prop
  | .int, b, o, b', o' | .bool, b, o, b', o' | .str, b, o, b', o' => b' = b ∧ o' = o
  | .seq a k c, b, o, b', o' => Foot h a b o b' o' ∨ Foot h c b (o + k) b' o'
  | .sl sz e, b, o, b', o' => (b' = b ∧ o' = o) ∨ ∃ b2 o2 n c, cellOf h b o = some (.slice (some ⟨b2, o2, none⟩) n c) ∧ ∃ j, j < n ∧ Foot h e b2 (o2 + j * sz) b' o'
/-- .. of which these tell of slices -/
def Hdr (h : Hp) : SeeTy → Nat → Nat → Nat → Nat → Prop
  | .int, _, _, _, _ | .bool, _, _, _, _ | .str, _, _, _, _ => False
  | .seq a k c, b, o, b', o' => Hdr h a b o b' o' ∨ Hdr h c b (o + k) b' o'
  | .sl sz e, b, o, b', o' => (b' = b ∧ o' = o) ∨ ∃ b2 o2 n c, cellOf h b o = some (.slice (some ⟨b2, o2, none⟩) n c) ∧ ∃ j, j < n ∧ Hdr h e b2 (o2 + j * sz) b' o'
/-- no place is seen twice -/
def NA (h : Hp) : SeeTy → Nat → Nat → Prop
  | .int, _, _ | .bool, _, _ | .str, _, _ => True
  | .seq a k c, b, o => NA h a b o ∧ NA h c b (o + k) ∧ ∀ b' o', Foot h a b o b' o' → ¬ Foot h c b (o + k) b' o'
  | .sl sz e, b, o => ∀ b2 o2 n c, cellOf h b o = some (.slice (some ⟨b2, o2, none⟩) n c) →
      (∀ j, j < n → NA h e b2 (o2 + j * sz) ∧ ¬ Foot h e b2 (o2 + j * sz) b o) ∧ ∀ i j, i < n → j < n → i ≠ j → ∀ b' o', Foot h e b2 (o2 + i * sz) b' o' → ¬ Foot h e b2 (o2 + j * sz) b' o'
section
variable {h h' : Hp}
theorem Hdr.foot : ∀ {t : SeeTy} {b o b' o' : Nat}, Hdr h t b o b' o' → Foot h t b o b' o'
  | .int, _, _, _, _, k => k.elim
  | .bool, _, _, _, _, k => k.elim
  | .str, _, _, _, _, k => k.elim
  | .seq _ _ _, _, _, _, _, .inl k => .inl k.foot
  | .seq _ _ _, _, _, _, _, .inr k => .inr k.foot
  | .sl _ _, _, _, _, _, .inl k => .inl k
  | .sl _ _, _, _, _, _, .inr ⟨b2, o2, n, c, k1, j, k2, k3⟩ => .inr ⟨b2, o2, n, c, k1, j, k2, k3.foot⟩
/-- where the slices stay, the places do -/
theorem Foot.hdr : ∀ {t : SeeTy} {b o b' o' : Nat}, (∀ x y, Hdr h t b o x y → cellOf h' x y = cellOf h x y) → (Foot h' t b o b' o' ↔ Foot h t b o b' o')
  | .int, _, _, _, _, _ => Iff.rfl
  | .bool, _, _, _, _, _ => Iff.rfl
  | .str, _, _, _, _, _ => Iff.rfl
  | .seq a k c, b, o, b', o', hh => or_congr (Foot.hdr fun x y hx => hh x y (.inl hx)) (Foot.hdr fun x y hx => hh x y (.inr hx))
  | .sl sz e, b, o, b', o', hh => by
    have h0 := hh b o (.inl ⟨rfl, rfl⟩)
    refine or_congr Iff.rfl ?_
    constructor
    · rintro ⟨b2, o2, n, c, k1, j, k2, k3⟩
      rw [h0] at k1
      exact ⟨b2, o2, n, c, k1, j, k2, (Foot.hdr fun x y hx => hh x y (.inr ⟨b2, o2, n, c, k1, j, k2, hx⟩)).1 k3⟩
    · rintro ⟨b2, o2, n, c, k1, j, k2, k3⟩
      exact ⟨b2, o2, n, c, by rw [h0]; exact k1, j, k2, (Foot.hdr fun x y hx => hh x y (.inr ⟨b2, o2, n, c, k1, j, k2, hx⟩)).2 k3⟩
theorem NA.hdr : ∀ {t : SeeTy} {b o : Nat}, (∀ x y, Hdr h t b o x y → cellOf h' x y = cellOf h x y) → NA h t b o → NA h' t b o
  | .int, _, _, _, k => k
  | .bool, _, _, _, k => k
  | .str, _, _, _, k => k
  | .seq a k c, b, o, hh, ⟨k1, k2, k3⟩ => ⟨k1.hdr fun x y hx => hh x y (.inl hx), k2.hdr fun x y hx => hh x y (.inr hx), fun b' o' ha hc =>
      k3 b' o' ((Foot.hdr fun x y hx => hh x y (.inl hx)).1 ha) ((Foot.hdr fun x y hx => hh x y (.inr hx)).1 hc)⟩
  | .sl sz e, b, o, hh, k => fun b2 o2 n c e1 => by
    rw [hh b o (.inl ⟨rfl, rfl⟩)] at e1
    have hf : ∀ j, j < n → ∀ b' o', (Foot h' e b2 (o2 + j * sz) b' o' ↔ Foot h e b2 (o2 + j * sz) b' o') := fun j hj b' o' => Foot.hdr fun x y hx => hh x y (.inr ⟨b2, o2, n, c, e1, j, hj, hx⟩)
    obtain ⟨k1, k2⟩ := k b2 o2 n c e1
    exact ⟨fun j hj => ⟨(k1 j hj).1.hdr fun x y hx => hh x y (.inr ⟨b2, o2, n, c, e1, j, hj, hx⟩), fun hx => (k1 j hj).2 ((hf j hj b o).1 hx)⟩,
      fun i j hi hj hne b' o' ha hc => k2 i j hi hj hne b' o' ((hf i hi b' o').1 ha) ((hf j hj b' o').1 hc)⟩
/-- where the places stay, what is seen does -/
theorem Rep.stay : ∀ {t : SeeTy} {b o : Nat} {ns : List Int} {ss : List ByteArray}, (∀ x y, Foot h t b o x y → cellOf h' x y = cellOf h x y) → Rep h t b o ns ss → Rep h' t b o ns ss
  | .int, b, o, _, _, hh, ⟨x, k1, k2⟩ => ⟨x, by rw [hh b o ⟨rfl, rfl⟩]; exact k1, k2⟩
  | .bool, b, o, _, _, hh, ⟨x, k1, k2⟩ => ⟨x, by rw [hh b o ⟨rfl, rfl⟩]; exact k1, k2⟩
  | .str, b, o, _, _, hh, ⟨x, k1, k2⟩ => ⟨x, by rw [hh b o ⟨rfl, rfl⟩]; exact k1, k2⟩
  | .seq a k c, b, o, _, _, hh, ⟨n1, s1, n2, s2, k1, k2, k3⟩ => ⟨n1, s1, n2, s2, k1.stay fun x y hx => hh x y (.inl hx), k2.stay fun x y hx => hh x y (.inr hx), k3⟩
  | .sl sz e, b, o, _, _, hh, .inl ⟨k1, k2⟩ => .inl ⟨by rw [hh b o (.inl ⟨rfl, rfl⟩)]; exact k1, k2⟩
  | .sl sz e, b, o, _, _, hh, .inr ⟨b2, o2, n, c, k1, f, g, k2, k3⟩ => .inr ⟨b2, o2, n, c, by rw [hh b o (.inl ⟨rfl, rfl⟩)]; exact k1, f, g, fun j hj => (k2 j hj).stay fun x y hx => hh x y (.inr ⟨b2, o2, n, c, k1, j, hj, hx⟩), k3⟩
theorem Hdr.hdr : ∀ {t : SeeTy} {b o b' o' : Nat}, (∀ x y, Hdr h t b o x y → cellOf h' x y = cellOf h x y) → (Hdr h' t b o b' o' ↔ Hdr h t b o b' o')
  | .int, _, _, _, _, _ => Iff.rfl
  | .bool, _, _, _, _, _ => Iff.rfl
  | .str, _, _, _, _, _ => Iff.rfl
  | .seq a k c, b, o, b', o', hh => or_congr (Hdr.hdr fun x y hx => hh x y (.inl hx)) (Hdr.hdr fun x y hx => hh x y (.inr hx))
  | .sl sz e, b, o, b', o', hh => by
    have h0 := hh b o (.inl ⟨rfl, rfl⟩)
    refine or_congr Iff.rfl ?_
    constructor
    · rintro ⟨b2, o2, n, c, k1, j, k2, k3⟩
      rw [h0] at k1
      exact ⟨b2, o2, n, c, k1, j, k2, (Hdr.hdr fun x y hx => hh x y (.inr ⟨b2, o2, n, c, k1, j, k2, hx⟩)).1 k3⟩
    · rintro ⟨b2, o2, n, c, k1, j, k2, k3⟩
      exact ⟨b2, o2, n, c, by rw [h0]; exact k1, j, k2, (Hdr.hdr fun x y hx => hh x y (.inr ⟨b2, o2, n, c, k1, j, k2, hx⟩)).2 k3⟩
/-- what is seen is one thing -/
theorem Rep.det : ∀ {t : SeeTy} {b o : Nat} {ns ns' : List Int} {ss ss' : List ByteArray}, Rep h t b o ns ss → Rep h t b o ns' ss' → ns = ns' ∧ ss = ss'
  | .int, _, _, _, _, _, _, ⟨x, k1, k2, k3⟩, ⟨y, l1, l2, l3⟩ => by rw [k1] at l1; cases l1; rw [k2, l2, k3, l3]; exact ⟨rfl, rfl⟩
  | .bool, _, _, _, _, _, _, ⟨x, k1, k2, k3⟩, ⟨y, l1, l2, l3⟩ => by rw [k1] at l1; cases l1; rw [k2, l2, k3, l3]; exact ⟨rfl, rfl⟩
  | .str, _, _, _, _, _, _, ⟨x, k1, k2, k3⟩, ⟨y, l1, l2, l3⟩ => by rw [k1] at l1; cases l1; rw [k2, l2, k3, l3]; exact ⟨rfl, rfl⟩
  | .seq a k c, _, _, _, _, _, _, ⟨n1, s1, n2, s2, k1, k2, k3, k4⟩, ⟨n1', s1', n2', s2', l1, l2, l3, l4⟩ => by
    obtain ⟨rfl, rfl⟩ := k1.det l1
    obtain ⟨rfl, rfl⟩ := k2.det l2
    rw [k3, k4, l3, l4]; exact ⟨rfl, rfl⟩
  | .sl sz e, _, _, _, _, _, _, .inl ⟨k1, k2, k3⟩, .inl ⟨l1, l2, l3⟩ => by rw [k2, k3, l2, l3]; exact ⟨rfl, rfl⟩
  | .sl sz e, _, _, _, _, _, _, .inl ⟨k1, k2, k3⟩, .inr ⟨_, _, _, _, l1, _⟩ => by rw [k1] at l1; cases l1
  | .sl sz e, _, _, _, _, _, _, .inr ⟨_, _, _, _, l1, _⟩, .inl ⟨k1, k2, k3⟩ => by rw [k1] at l1; cases l1
  | .sl sz e, _, _, _, _, _, _, .inr ⟨b2, o2, n, c, k1, f, g, k2, k3, k4⟩, .inr ⟨b2', o2', n', c', l1, f', g', l2, l3, l4⟩ => by
    rw [k1] at l1
    cases l1
    have hd : ∀ j, j < n → f j = f' j ∧ g j = g' j := fun j hj => (k2 j hj).det (l2 j hj)
    have hc : ∀ m, m ≤ n → catN f m = catN f' m ∧ catN g m = catN g' m := by
      intro m
      induction m with
      | zero => intro _; exact ⟨rfl, rfl⟩
      | succ m ih =>
        intro hm
        obtain ⟨a1, a2⟩ := ih (by omega)
        obtain ⟨b1, b2⟩ := hd m (by omega)
        exact ⟨by simp only [catN, a1, b1], by simp only [catN, a2, b2]⟩
    obtain ⟨a1, a2⟩ := hc n (Nat.le_refl n)
    rw [k3, k4, l3, l4, a1, a2]
    exact ⟨rfl, rfl⟩
end
/- what a look leaves alone -/
def Shp (h h' : Hp) (i : Nat) : Prop := ∀ c ro e, h.get i = some (.cells c ro e) → ∃ c', h'.get i = some (.cells c' ro e) ∧ c'.length = c.length
/-- E: blocks that may become anything; S: places that may be written -/
structure Fr1 (h h' : Hp) (E : Nat → Prop) (S : Nat → Nat → Prop) : Prop where
  nx : h.next ≤ h'.next
  shp : ∀ i, i < h.next → ¬ E i → Shp h h' i
  cell : ∀ i, i < h.next → ¬ E i → ∀ o, ¬ S i o → cellOf h' i o = cellOf h i o
  blk : ∀ i, i < h.next → ¬ E i → (∀ o, ¬ S i o) → h'.get i = h.get i
theorem Fr1.refl (h : Hp) (E : Nat → Prop) (S : Nat → Nat → Prop) : Fr1 h h E S := ⟨Nat.le_refl _, fun _ _ _ c _ _ hc => ⟨c, hc, rfl⟩, fun _ _ _ _ _ => rfl, fun _ _ _ _ => rfl⟩
theorem Fr1.trans {h h1 h2 : Hp} {E E1 : Nat → Prop} {S S1 S2 : Nat → Nat → Prop} (a : Fr1 h h1 E S1) (b : Fr1 h1 h2 E1 S2) (hE : ∀ i, i < h.next → E1 i → E i) (h1s : ∀ i o, S1 i o → S i o) (h2s : ∀ i o, i < h.next → S2 i o → S i o) : Fr1 h h2 E S where
  nx := Nat.le_trans a.nx b.nx
  shp := fun i hi he c ro e hc => by
    obtain ⟨c1, k1, k2⟩ := a.shp i hi he c ro e hc
    obtain ⟨c2, k3, k4⟩ := b.shp i (Nat.lt_of_lt_of_le hi a.nx) (fun q => he (hE i hi q)) c1 ro e k1
    exact ⟨c2, k3, k4.trans k2⟩
  cell := fun i hi he o ho => (b.cell i (Nat.lt_of_lt_of_le hi a.nx) (fun q => he (hE i hi q)) o (fun q => ho (h2s i o hi q))).trans (a.cell i hi he o (fun q => ho (h1s i o q)))
  blk := fun i hi he ho => (b.blk i (Nat.lt_of_lt_of_le hi a.nx) (fun q => he (hE i hi q)) (fun o q => ho o (h2s i o hi q))).trans (a.blk i hi he (fun o q => ho o (h1s i o q)))
theorem Fr1.mono {h h1 : Hp} {E E1 : Nat → Prop} {S S1 : Nat → Nat → Prop} (a : Fr1 h h1 E S) (hE : ∀ i, i < h.next → E i → E1 i) (hS : ∀ i o, i < h.next → S i o → S1 i o) : Fr1 h h1 E1 S1 where
  nx := a.nx
  shp := fun i hi he => a.shp i hi (fun q => he (hE i hi q))
  cell := fun i hi he o ho => a.cell i hi (fun q => he (hE i hi q)) o (fun q => ho (hS i o hi q))
  blk := fun i hi he ho => a.blk i hi (fun q => he (hE i hi q)) (fun o q => ho o (hS i o hi q))
/- an eye -/
def strsV (l : List ByteArray) : List Value := l.map .string
def OwnSl (h : Hp) (E : Nat → Prop) (be : Nat) (v : Value) (cs : List Value) (el : Nat) : Prop :=
  (v = .slice none 0 0 ∧ cs = []) ∨ ∃ nb, v = .slice (some ⟨nb, 0, none⟩) cs.length (U + 1) ∧ nb < h.next ∧ E nb ∧ nb ≠ be ∧ h.get nb = some (.cells cs false el)
/-- an eye at a block: what it has seen, its mark; te, ti, ts: the numbers of its type, of int, of string -/
def Eye (te ti ts : Nat) (h : Hp) (be : Nat) (E : Nat → Prop) (ns : List Int) (ss : List ByteArray) (m : Bool) (at' : Int) : Prop :=
  ∃ nv sv, h.get be = some (.cells [nv, sv, .bool m, .int .i64 at'] false te) ∧ be < h.next ∧ E be ∧ OwnSl h E be nv (ints ns) ti ∧ OwnSl h E be sv (strsV ss) ts ∧
    ∀ a b n m' c d, nv = .slice (some a) n c → sv = .slice (some b) m' d → a.block ≠ b.block
/-- what a function that sees does -/
def SeePost (te ti ts : Nat) (t : SeeTy) (h : Hp) (b o be : Nat) (E : Nat → Prop) (n0 : List Int) (s0 : List ByteArray) (ns : List Int) (ss : List ByteArray) (m : Bool) (a0 : Int) (e : AEnd) (h' : Hp) : Prop :=
  e = .ret (.tuple #[]) ∧ ∃ ns' ss' at', Eye te ti ts h' be (fun i => E i ∨ (h.next ≤ i ∧ i < h'.next)) (n0 ++ ns') (s0 ++ ss') m at' ∧ Rep h' t b o ns' ss' ∧ (m = false → ns' = ns ∧ ss' = ss) ∧ (ns'.length = ns.length ∧ ss'.length = ss.length ∧ a0 ≤ at' ∧ at' ≤ a0 + ns.length + ss.length) ∧
    (∀ x y, Hdr h t b o x y → cellOf h' x y = cellOf h x y) ∧ Fr1 h h' E (fun i x => m = true ∧ Foot h t b o i x)
def SeeOK (P : Program) (te ti ts : Nat) (g : FuncId) (t : SeeTy) : Prop :=
  ∀ (h : Hp) (b o be : Nat) (E : Nat → Prop) (n0 : List Int) (s0 : List ByteArray) (ns : List Int) (ss : List ByteArray) (m : Bool) (at' : Int), Rep h t b o ns ss → Eye te ti ts h be E n0 s0 m at' → (∀ x y, Foot h t b o x y → ¬ E x ∧ x < h.next) →
    (m = true → NA h t b o ∧ ∀ x y, Foot h t b o x y → ∃ c e, h.get x = some (.cells c false e)) → n0.length + ns.length ≤ 1048576 → s0.length + ss.length ≤ 1048576 → 0 ≤ at' ∧ at' + ns.length + ss.length ≤ 1000000000000 →
    ACalls P g [.pointer (some ⟨be, 0, none⟩), .pointer (some ⟨b, o, none⟩)] (SeePost te ti ts t h b o be E n0 s0 ns ss m at') h
theorem ldN_lowU {h : Hp} {U' L : List (Nat × AObj)} {k i o n : Nat} (hi : i < h.next) : ldN (ov h U' L k).get ⟨i, o, none⟩ n = (match (match lk U' i with | some o => some o | none => h.get i) with | some (.cells c _ _) => (let r := takeN n (dropN o c); bif Nat.beq r.length n then some r else none) | _ => none) := by
  unfold ldN
  simp only [ov_low hi]
  cases lk U' i with
  | none => cases h.get i with
    | none => rfl
    | some o => cases o <;> rfl
  | some o => cases o <;> rfl
theorem repl1 : ∀ {c : List Value} {o : Nat} {v : Value}, o < c.length → repl c o [v] = some (c.set o v)
  | [], _, _, h => by simp at h
  | x :: c, 0, v, _ => by simp [repl]
  | x :: c, o + 1, v, h => by
    simp only [repl, List.set_cons_succ]
    rw [repl1 (by simpa using h)]
    rfl
theorem getD_set_self' {c : List Value} {o : Nat} {v : Value} (h : o < c.length) : (c.set o v)[o]? = some v := by simp [h]
theorem cellOf_spec {h : Hp} {b o : Nat} {v : Value} (hc : cellOf h b o = some v) : ∃ c ro e, h.get b = some (.cells c ro e) ∧ c[o]? = some v := by
  unfold cellOf at hc
  split at hc
  · rename_i c ro e hg; exact ⟨c, ro, e, hg, hc⟩
  · cases hc
theorem OwnSl.ov {h : Hp} {E E' : Nat → Prop} {be el : Nat} {v : Value} {cs : List Value} {U' L : List (Nat × AObj)} {k : Nat} (hv : OwnSl h E be v cs el) (hE : ∀ i, E i → E' i) (hU : ∀ nb n c, v = .slice (some ⟨nb, 0, none⟩) n c → lk U' nb = none) : OwnSl (Ab.ov h U' L k) E' be v cs el := by
  rcases hv with hv | ⟨nb, h1, h2, h3, h4, h5⟩
  · exact .inl hv
  · refine .inr ⟨nb, h1, by rw [ov_next]; unfold loc; omega, hE _ h3, h4, ?_⟩
    rw [ov_low h2, hU _ _ _ h1]
    exact h5
theorem Fr1.ov {h : Hp} {E : Nat → Prop} {S : Nat → Nat → Prop} {U' L : List (Nat × AObj)} {k : Nat} (hU : ∀ p ∈ U', E p.1 ∨ ((∃ o, S p.1 o) ∧ ∃ c c' e, h.get p.1 = some (.cells c false e) ∧ p.2 = .cells c' false e ∧ c'.length = c.length ∧ ∀ o, ¬ S p.1 o → c'[o]? = c[o]?)) : Fr1 h (Ab.ov h U' L k) E S := by
  have key : ∀ i, i < h.next → ¬ E i → (Ab.ov h U' L k).get i = h.get i ∨ ((∃ o, S i o) ∧ ∃ c c' e, h.get i = some (.cells c false e) ∧ (Ab.ov h U' L k).get i = some (.cells c' false e) ∧ c'.length = c.length ∧ ∀ o, ¬ S i o → c'[o]? = c[o]?) := fun i hi he => by
    rw [ov_low hi]
    cases hl : lk U' i with
    | none => exact .inl rfl
    | some o =>
      have := hU _ (lk_mem hl)
      simp only at this
      rcases this with h1 | ⟨hs, c, c', e, h1, rfl, h2, h3⟩
      · exact absurd h1 he
      · exact .inr ⟨hs, c, c', e, h1, rfl, h2, h3⟩
  refine ⟨by rw [ov_next]; unfold loc; omega, fun i hi he c ro e hc => ?_, fun i hi he o ho => ?_, fun i hi he ho => ?_⟩
  · rcases key i hi he with h1 | ⟨_, c1, c', e1, h1, h2, h3, _⟩
    · exact ⟨c, by rw [h1]; exact hc, rfl⟩
    · rw [hc] at h1; cases h1; exact ⟨c', h2, h3⟩
  · rcases key i hi he with h1 | ⟨_, c1, c', e1, h1, h2, h3, h4⟩
    · unfold cellOf; rw [h1]
    · unfold cellOf; rw [h1, h2]; exact h4 o ho
  · rcases key i hi he with h1 | ⟨⟨o, hs⟩, _⟩
    · exact h1
    · exact absurd hs (ho o)
/-- the eye behind a push of numbers -/
theorem Eye.push {te ti ts : Nat} {h : Hp} {be : Nat} {E : Nat → Prop} {ns : List Int} {s0 : List ByteArray} {m : Bool} {a1 : Int} {U' L : List (Nat × AObj)} {k j n : Nat} {nv sv : Value} (hbe : be < h.next) (hEbe : E be) (hsv : OwnSl h E be sv (strsV s0) ts) (hU1 : lk U' be = some (.cells [nv, sv, .bool m, .int .i64 a1] false te))
    (hnv : nv = .slice (some ⟨loc h j, 0, none⟩) n (U + 1)) (hn : n = ns.length) (hj : j < k) (hL : lk L j = some (.cells (ints ns) false ti)) (hU2 : ∀ sb n c, sv = .slice (some ⟨sb, 0, none⟩) n c → lk U' sb = none) :
    Eye te ti ts (ov h U' L k) be (fun i => E i ∨ (h.next ≤ i ∧ i < (ov h U' L k).next)) ns s0 m a1 := by
  have hnx : (ov h U' L k).next = h.next + k := by rw [ov_next]; unfold loc; rfl
  refine ⟨nv, sv, by rw [ov_low hbe, hU1], by omega, .inl hEbe, .inr ⟨loc h j, by rw [hnv, hn, ints_length], by rw [ov_next, loc_lt]; exact hj, .inr ⟨by unfold loc; omega, by rw [ov_next, loc_lt]; exact hj⟩, by unfold loc; omega, by rw [ov_loc]; exact hL⟩, hsv.ov (fun i hi => .inl hi) hU2, ?_⟩
  intro a b n' m' c d e1 e2
  rw [hnv] at e1
  cases e1
  rcases hsv with ⟨e3, _⟩ | ⟨sb, e3, h2, _⟩
  · rw [e2] at e3; cases e3
  · rw [e2] at e3; cases e3
    simp only
    unfold loc
    omega
/-- a number is seen -/
theorem SeePost.int {te ti ts : Nat} {h : Hp} {b o be : Nat} {E : Nat → Prop} {n0 : List Int} {s0 : List ByteArray} {x x' a0 a1 : Int} {m : Bool} {c : List Value} {ro : Bool} {el : Nat} {nv sv : Value} {U' L : List (Nat × AObj)} {k j n : Nat}
    (hbe : be < h.next) (hEbe : E be) (hsv : OwnSl h E be sv (strsV s0) ts) (hb : b < h.next) (hgb : h.get b = some (.cells c ro el)) (hco : c[o]? = some (.int .i64 x)) (hEb : ¬ E b)
    (hU1 : lk U' be = some (.cells [nv, sv, .bool m, .int .i64 a1] false te)) (hnv : nv = .slice (some ⟨loc h j, 0, none⟩) n (U + 1)) (hn : n = n0.length + 1) (hj : j < k) (hL : lk L j = some (.cells (ints (n0 ++ [x'])) false ti))
    (hU2 : ∀ sb n c, sv = .slice (some ⟨sb, 0, none⟩) n c → lk U' sb = none)
    (hm : (m = true ∧ a1 = a0 + 1 ∧ x' = a1 ∧ ro = false ∧ lk U' b = some (.cells (c.set o (.int .i64 x')) false el)) ∨ (m = false ∧ a1 = a0 ∧ x' = x ∧ lk U' b = none))
    (hUs : ∀ p ∈ U', E p.1 ∨ (m = true ∧ p = (b, .cells (c.set o (.int .i64 x')) false el))) :
    SeePost te ti ts .int h b o be E n0 s0 [x] [] m a0 (.ret (.tuple #[])) (Ab.ov h U' L k) := by
  have hol : o < c.length := (List.getElem?_eq_some_iff.1 hco).1
  refine ⟨rfl, [x'], [], a1, ?_, ⟨x', ?_, rfl, rfl⟩, ?_, ⟨rfl, rfl, ?_, ?_⟩, fun _ _ q => q.elim, ?_⟩
  · rw [List.append_nil]
    exact Eye.push hbe hEbe hsv hU1 hnv (by simpa using hn) hj hL hU2
  · unfold cellOf
    rw [ov_low hb]
    rcases hm with ⟨_, _, _, _, h1⟩ | ⟨_, _, h1, h2⟩
    · rw [h1]; exact getD_set_self' hol
    · rw [h2, h1]; simp only [hgb]; exact hco
  · intro e
    rcases hm with ⟨h1, _⟩ | ⟨_, _, h1, _⟩
    · rw [e] at h1; cases h1
    · rw [h1]; exact ⟨rfl, rfl⟩
  · rcases hm with ⟨_, h1, _⟩ | ⟨_, h1, _⟩ <;> omega
  · simp only [List.length_cons, List.length_nil]
    rcases hm with ⟨_, h1, _⟩ | ⟨_, h1, _⟩ <;> omega
  · refine Fr1.ov fun p hp => ?_
    rcases hUs p hp with h1 | ⟨h1, rfl⟩
    · exact .inl h1
    · rcases hm with ⟨_, _, _, h2, _⟩ | ⟨h2, _⟩
      · subst h2
        refine .inr ⟨⟨o, h1, rfl, rfl⟩, c, _, el, hgb, rfl, by simp, fun o' ho' => ?_⟩
        have : o ≠ o' := fun e => ho' ⟨h1, rfl, e.symm⟩
        simp [List.getElem?_set, this]
      · rw [h1] at h2; cases h2
end Go.Ab
