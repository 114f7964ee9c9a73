/- A part of the proof of a law over a given program: Wp, Wp2, Draw, Ev. -/
import Derived.Tactics
import Derived.LoopN
import Derived.TacticsIn
import Derived.LoopNIn
import Derived.Orders
import Derived.OrdersIn
import Derived.Test.YtckgcmgnpblnaaaGreatDoorT06
set_option linter.unusedVariables false
set_option linter.unusedSimpArgs false
/- Code and calls on the abstract heap: what is proved of them holds in each world in which the heap lies. -/
namespace Go.Ab
open Go.RowKit
/-- whatever frame the code runs in: a function's, or a round's -/
def FR (r : Option Nat) : Fence := { Fence.wide with round := r }
theorem FR.room (r : Option Nat) (n : Nat) : (FR r).room n := fun _ h => by cases h
/-- how a piece of code is left -/
inductive AEx where
  | normal | exit (n : Nat) | goto (l : Nat) | ret | panic (v : Value)
def ExR (ρ : Ren) : AEx → Exit → Prop
  | .normal, e => e = .normal
  | .exit n, e => e = .exit n
  | .goto l, e => e = .goto l
  | .ret, e => e = .ret
  | .panic v, e => ∃ c, e = .panic [{ v := c, recovered := false }] ∧ VR ρ v c
abbrev APost := AEx → (Nat → Value) → Hp → Prop
def Post (P : Program) (ρ : Ren) (h : Hp) (w : World) (N : Nat) (D : List Deferred) (Q : APost) : Exit → Act → World → Prop := fun e a' w' =>
  ∃ e' ρ' T' h', ExR ρ' e' e ∧ HR P ρ' h' w' ∧ Fr h.next ρ h w ρ' h' w' ∧ TR ρ' T' N a' ∧ a'.defers = D ∧ Q e' T' h'
def AWp (P : Program) (N : Nat) (c : Code) (Q : APost) (T : Nat → Value) (h : Hp) : Prop :=
  ∀ r ρ w a, HR P ρ h w → TR ρ T N a → c.wpIn (FR r) 0 P (Post P ρ h w N a.defers Q) a w
/-- how a call ends -/
inductive AEnd where
  | ret (v : Value) | panic (v : Value)
def EndR (ρ : Ren) : AEnd → Ending → Prop
  | .ret v, e => ∃ c, e = .returned c ∧ VR ρ v c
  | .panic v, e => ∃ c, e = .panicked [{ v := c, recovered := false }] ∧ VR ρ v c
def ACalls (P : Program) (f : FuncId) (args : List Value) (Q : AEnd → Hp → Prop) (h : Hp) : Prop :=
  ∀ ρ w cs, HR P ρ h w → VRL ρ args cs.toList → Calls P f cs w fun e w' => ∃ e' ρ' h', EndR ρ' e' e ∧ HR P ρ' h' w' ∧ Fr h.next ρ h w ρ' h' w' ∧ Q e' h'
section
variable {P : Program} {N : Nat} {Q Q' : APost} {T : Nat → Value} {h : Hp}
theorem Post.trans {ρ ρ1 : Ren} {h1 : Hp} {w w1 : World} {D : List Deferred} {e : Exit} {a' : Act} {w' : World} (F : Fr h.next ρ h w ρ1 h1 w1) (p : Post P ρ1 h1 w1 N D Q e a' w') : Post P ρ h w N D Q e a' w' := by
  obtain ⟨e', ρ', T', h', p1, p2, p3, p4, p5, p6⟩ := p
  exact ⟨e', ρ', T', h', p1, p2, F.trans p3 F.next, p4, p5, p6⟩
theorem Post.mono {ρ : Ren} {w : World} {D : List Deferred} {e : Exit} {a' : Act} {w' : World} (hq : ∀ e T h, Q e T h → Q' e T h) (p : Post P ρ h w N D Q e a' w') : Post P ρ h w N D Q' e a' w' := by
  obtain ⟨e', ρ', T', h', p1, p2, p3, p4, p5, p6⟩ := p
  exact ⟨e', ρ', T', h', p1, p2, p3, p4, p5, hq _ _ _ p6⟩
theorem AWp.mono {c : Code} (hq : ∀ e T h, Q e T h → Q' e T h) (p : AWp P N c Q T h) : AWp P N c Q' T h :=
  fun r ρ w a H ht => wpIn_mono (p r ρ w a H ht) fun _ _ _ => Post.mono hq
theorem ACalls.mono {f : FuncId} {args : List Value} {R R' : AEnd → Hp → Prop} (hq : ∀ e h, R e h → R' e h) (p : ACalls P f args R h) : ACalls P f args R' h :=
  fun ρ w cs H hv => (p ρ w cs H hv).mono fun _ _ ⟨e', ρ', h', p1, p2, p3, p4⟩ => ⟨e', ρ', h', p1, p2, p3, hq _ _ p4⟩
theorem Post.here {ρ : Ren} {w : World} {a : Act} {e : AEx} {e' : Exit} (H : HR P ρ h w) (ht : TR ρ T N a) (he : ExR ρ e e') (q : Q e T h) : Post P ρ h w N a.defers Q e' a w :=
  ⟨e, ρ, T, h, he, H, Fr.refl _ _ _ _, ht, rfl, q⟩
theorem AWp.skip (q : Q .normal T h) : AWp P N .skip Q T h := fun _ _ _ _ H ht => wpIn_skip (.here (e := .normal) H ht rfl q)
theorem AWp.label {l : Nat} (q : Q .normal T h) : AWp P N (.label l) Q T h := fun _ _ _ _ H ht => wpIn_label (.here (e := .normal) H ht rfl q)
theorem AWp.exit {i : Nat} (q : Q (.exit i) T h) : AWp P N (.exit i) Q T h := fun _ _ _ _ H ht => wpIn_exit (.here (e := .exit i) H ht rfl q)
theorem AWp.goto {i : Nat} (q : Q (.goto i) T h) : AWp P N (.goto i) Q T h := fun _ _ _ _ H ht => wpIn_goto (.here (e := .goto i) H ht rfl q)
theorem AWp.ret (q : Q .ret T h) : AWp P N .ret Q T h := fun _ _ _ _ H ht => wpIn_ret (.here (e := .ret) H ht rfl q)
/-- behind the first of two pieces -/
def thenA (K : (Nat → Value) → Hp → Prop) (Q : APost) : APost
  | .normal, T, h => K T h
  | e, T, h => Q e T h
theorem Post.then {ρ : Ren} {w : World} {D : List Deferred} {e : Exit} {a' : Act} {w' : World} {K : (Nat → Value) → Hp → Prop} {R : Act → World → Prop}
    (hk : ∀ ρ1 T1 h1 a1 w1, HR P ρ1 h1 w1 → Fr h.next ρ h w ρ1 h1 w1 → TR ρ1 T1 N a1 → a1.defers = D → K T1 h1 → R a1 w1)
    (p : Post P ρ h w N D (thenA K Q) e a' w') : Exit.then R (Post P ρ h w N D Q) e a' w' := by
  obtain ⟨e', ρ', T', h', p1, p2, p3, p4, p5, p6⟩ := p
  cases e' with
  | normal => cases p1; exact hk _ _ _ _ _ p2 p3 p4 p5 p6
  | exit n => cases p1; exact ⟨.exit n, ρ', T', h', rfl, p2, p3, p4, p5, p6⟩
  | goto n => cases p1; exact ⟨.goto n, ρ', T', h', rfl, p2, p3, p4, p5, p6⟩
  | ret => cases p1; exact ⟨.ret, ρ', T', h', rfl, p2, p3, p4, p5, p6⟩
  | panic v => obtain ⟨c, rfl, p7⟩ := p1; exact ⟨.panic v, ρ', T', h', ⟨c, rfl, p7⟩, p2, p3, p4, p5, p6⟩
theorem AWp.seq {x y : Code} (p : AWp P N x (thenA (fun T h => AWp P N y Q T h) Q) T h) : AWp P N (.seq x y) Q T h := fun r ρ w a H ht =>
  wpIn_seq (wpIn_mono (p r ρ w a H ht) fun _ _ _ q => q.then fun _ _ _ a1 _ H1 F1 t1 d1 k1 => by
    have := k1 r _ _ a1 H1 t1
    rw [d1] at this
    exact wpIn_mono this fun _ _ _ q => q.trans F1)
def ARounds (P : Program) (N : Nat) (c : Code) (Q : APost) : Nat → (Nat → Value) → Hp → Prop
  | 0, _, _ => False
  | n + 1, T, h => AWp P N c (thenA (ARounds P N c Q n) Q) T h
theorem ARounds.sound {r : Option Nat} {c : Code} : ∀ (n : Nat) {T : Nat → Value} {h : Hp} {ρ0 ρ : Ren} {h0 : Hp} {w0 w : World} {a : Act}, ARounds P N c Q n T h → HR P ρ h w → Fr h0.next ρ0 h0 w0 ρ h w → TR ρ T N a →
    Code.roundsIn (FR r) 0 P c (Post P ρ0 h0 w0 N a.defers Q) n a w
  | 0, _, _, _, _, _, _, _, _, p, _, _, _ => p.elim
  | n + 1, T, h, ρ0, ρ, h0, w0, w, a, p, H, F, ht => by
    refine wpIn_mono (p r ρ w a H ht) fun e a' w' q => ?_
    have := Post.then (R := Code.roundsIn (FR r) 0 P c (Post P ρ0 h0 w0 N a.defers Q) n) (fun ρ1 T1 h1 a1 w1 H1 F1 t1 d1 k1 => by
      have := ARounds.sound (r := r) n k1 H1 (F.trans F1 F.next) t1
      rw [d1] at this
      exact this) q
    cases e <;> first | exact this | exact this.trans F
theorem AWp.loop {c : Code} (n : Nat) (p : ARounds P N c Q n T h) : AWp P N (.loop c) Q T h := fun _ _ _ _ H ht => wpIn_loop_rounds n (p.sound n H (Fr.refl _ _ _ _) ht)
def blockA (i : Nat) (Q : APost) : APost
  | .exit j, T, h => bif Nat.beq j i then Q .normal T h else Q (.exit j) T h
  | e, T, h => Q e T h
theorem AWp.block {i : Nat} {c : Code} (p : AWp P N c (blockA i Q) T h) : AWp P N (.block i c) Q T h := fun r ρ w a H ht =>
  wpIn_block (wpIn_mono (p r ρ w a H ht) fun e a' w' q => by
    obtain ⟨e', ρ', T', h', p1, p2, p3, p4, p5, p6⟩ := q
    cases e' with
    | exit j =>
      cases p1
      simp only [blockA] at p6
      cases hb : Nat.beq j i with
      | true =>
        rw [hb] at p6
        have := Nat.eq_of_beq_eq_true hb
        simp only [Exit.inBlock, if_pos this]
        exact ⟨.normal, ρ', T', h', rfl, p2, p3, p4, p5, p6⟩
      | false =>
        rw [hb] at p6
        have := Nat.ne_of_beq_eq_false hb
        simp only [Exit.inBlock, if_neg this]
        exact ⟨.exit j, ρ', T', h', rfl, p2, p3, p4, p5, p6⟩
    | normal => cases p1; exact ⟨.normal, ρ', T', h', rfl, p2, p3, p4, p5, p6⟩
    | goto n => cases p1; exact ⟨.goto n, ρ', T', h', rfl, p2, p3, p4, p5, p6⟩
    | ret => cases p1; exact ⟨.ret, ρ', T', h', rfl, p2, p3, p4, p5, p6⟩
    | panic v => obtain ⟨c, rfl, p7⟩ := p1; exact ⟨.panic v, ρ', T', h', ⟨c, rfl, p7⟩, p2, p3, p4, p5, p6⟩)
theorem AWp.cond {ng : Nat} (hng : ng ≤ P.globals.size) {c : Operand} {x y : Code} {t : Bool} (hok : okO ng c = true) (hc : evo T c = .bool t) (p : AWp P N (bif t then x else y) Q T h) : AWp P N (.cond c x y) Q T h := fun r ρ w a H ht => by
  have hv := evo_sound H hng ht hok
  rw [hc] at hv
  refine wpIn_cond (VR.bool hv) ?_
  have := p r ρ w a H ht
  cases t <;> exact this
/- regions that don't ask for their order -/
def putT (T : Nat → Value) (d : Option Nat) (v : Value) : Nat → Value :=
  match d with
  | some d => fun t => if t = d then v else T t
  | none => T
theorem TR.put {ρ : Ren} {a : Act} {d : Option Nat} {v c : Value} (hd : ∀ i, d = some i → i < N) (ht : TR ρ T N a) (hv : VR ρ v c) : TR ρ (putT T d v) N (a.put d c) := by
  cases d with
  | none => exact ht
  | some d =>
    have := hd d rfl
    refine ⟨by simp [Act.put, ht.1], fun t => ?_⟩
    simp only [putT, Act.put]
    by_cases hdt : t = d
    · subst hdt
      have : t < a.tmps.size := by rw [ht.1]; exact this
      simp [this, hv]
    · have h2 := ht.2 t
      rw [if_neg hdt]
      have : (a.tmps.setIfInBounds d c).getD t Go.undef = a.tmps.getD t Go.undef := by
        simp [Ne.symm hdt]
      rw [this]
      exact h2
theorem Act.put_defers (a : Act) (d : Option Nat) (v : Value) : (a.put d v).defers = a.defers := by cases d <;> rfl
def wantA (ops : List Oper) (T : Nat → Value) (o : Oper) : Bool :=
  match o.guard with
  | none => true
  | some (j, b) =>
    (match nth ops j with
    | some o' => (match o'.dst with | some d => (match T d with | .bool x => (bif x then b else !b) | _ => false) | none => false)
    | none => false)
/-- what an operation's guard looks at is known -/
def gK (ops : List Oper) (T : Nat → Value) (o : Oper) : Bool :=
  match o.guard with
  | none => true
  | some (j, _) => (match nth ops j with | some o' => (match o'.dst with | some d => known (T d) | none => true) | none => true)
theorem gK_of_want {ops : List Oper} {T : Nat → Value} {o : Oper} (h : wantA ops T o = true) : gK ops T o = true := by
  unfold wantA at h
  unfold gK
  cases hg : o.guard with
  | none => rfl
  | some g =>
    obtain ⟨j, b⟩ := g
    rw [hg] at h
    simp only at h ⊢
    cases ho : nth ops j with
    | none => rfl
    | some o' =>
      rw [ho] at h
      simp only at h ⊢
      cases hd : o'.dst with
      | none => rfl
      | some d =>
        rw [hd] at h
        simp only at h ⊢
        cases hT : T d <;> rw [hT] at h <;> first | rfl | cases h
theorem VR.of_bool {ρ : Ren} {v : Value} {x : Bool} (hj : known v = true) (hv : VR ρ v (.bool x)) : v = .bool x := by
  cases v with
  | bool b => cases hv; rfl
  | pointer a => cases a with
    | none => cases hv
    | some a => obtain ⟨_, _, _, e⟩ := hv; cases e
  | slice a n k => cases a with
    | none => cases hv
    | some a => obtain ⟨_, _, _, e⟩ := hv; obtain ⟨_, _, e⟩ := e.inv; cases e
  | map a => cases a with
    | none => cases hv
    | some a => obtain ⟨_, _, e⟩ := hv; cases e
  | chan a => cases a with
    | none => cases hv
    | some a => cases hj
  | func f x y => obtain ⟨_, _, e, _⟩ := hv; cases e
  | iface t v => obtain ⟨_, e, _⟩ := hv; cases e
  | agg c => obtain ⟨_, e, _⟩ := hv; cases e
  | tuple c => obtain ⟨_, e, _⟩ := hv; cases e
  | int k n => cases hv
  | string s => cases hv
  | float k n => cases hv
  | complex k a b => cases hv
  | nilFunc => cases hv
  | nilIface => cases hv
theorem wantA_eq {ops : Array Oper} {ρ : Ren} {a : Act} (ht : TR ρ T N a) (o : Oper) (hk : gK ops.toList T o = true) : Region.wanted o (yielded ops a.tmps) = wantA ops.toList T o := by
  unfold Region.wanted wantA
  unfold gK at hk
  cases hg : o.guard with
  | none => rfl
  | some g =>
    obtain ⟨j, b⟩ := g
    rw [hg] at hk
    simp only [yielded, nth_eq, Array.getElem?_toList] at hk ⊢
    cases ho : ops[j]? with
    | none => simp
    | some o' =>
      rw [ho] at hk
      simp only [Option.bind_some] at hk ⊢
      cases hd : o'.dst with
      | none => simp
      | some d =>
        rw [hd] at hk
        simp only [Option.bind_some] at hk ⊢
        have hv := ht.2 d
        cases hT : T d <;> rw [hT] at hv hk
        case bool x =>
          have hv := VR.bool hv
          have : a.tmps[d]? = some (.bool x) := by
            cases h2 : a.tmps[d]? with
            | none => simp [Array.getD_eq_getD_getElem?, h2, undef] at hv
            | some y => simp [Array.getD_eq_getD_getElem?, h2] at hv; rw [hv]
          rw [this]
          cases x <;> cases b <;> rfl
        all_goals
          have : ∀ x, a.tmps[d]? ≠ some (.bool x) := fun x h2 => by
            simp only [Array.getD_eq_getD_getElem?, h2, Option.getD_some] at hv
            cases VR.of_bool hk hv
          cases h2 : a.tmps[d]? with
          | none => rfl
          | some y =>
            cases y <;> first | rfl | exact absurd h2 (this _)
end
end Go.Ab
/- Regions in their written order; calls. -/
namespace Go.Ab
open Go.RowKit
def AList (P : Program) (N : Nat) (ops : Array Oper) (rest : List Oper) (Q : APost) (T : Nat → Value) (h : Hp) : Prop :=
  ∀ r ρ0 h0 w0 ρ w a, HR P ρ h w → Fr h0.next ρ0 h0 w0 ρ h w → TR ρ T N a → wpListIn (FR r) 0 P ops (Post P ρ0 h0 w0 N a.defers Q) rest a w
theorem opA_nodefer {E : Nat → Option TI} {T : Nat → Value} {get : Nat → Option AObj} {nid : Nat} {op : Op} {v : Value} {e : HE} (hr : opA E T get nid op = some (v, e)) : ∀ c, op ≠ .defer c := fun c h => by
  rw [h] at hr
  simp only [opA] at hr
  try cases hr
/-- a call, from whatever frame -/
theorem enter_in {r : Option Nat} {n : Nat} {P : Program} {f : FuncId} {args : Array Value} {w : World} {R : Ending → World → Prop} (h : Calls P f args w R) : CallsIn (FR r) n P f args w R := (callsIn_wide (n := n)).2 h
/-- that a function is entered when it is called -/
def Enters (P : Program) (g : FuncId) : Prop := ∀ args w, (callFunc g args).run P w = .ok (.enter g args) w
def dstOK (N : Nat) (o : Oper) : Bool :=
  match o.dst with
  | some d => Nat.blt d N
  | none => true
section
variable {P : Program} {N : Nat} {Q : APost} {T : Nat → Value} {h : Hp} {ops : Array Oper} {rest : List Oper} {o : Oper} {E : Nat → Option TI} {ng : Nat}
theorem dstOK_spec (hd : dstOK N o = true) : ∀ i, o.dst = some i → i < N := fun i hi => by
  unfold dstOK at hd
  rw [hi] at hd
  exact blt_iff.1 hd
theorem AWp.region {id : Nat} (p : AList P N ops ops.toList Q T h) : AWp P N (.region id ops false) Q T h := fun r ρ w a H ht => wpIn_region_list (p r ρ h w ρ w a H (Fr.refl _ _ _ _) ht)
theorem AList.nil (q : Q .normal T h) : AList P N ops [] Q T h := fun _ _ _ _ _ _ _ H F ht => Post.trans F (.here (e := .normal) H ht rfl q)
theorem AList.skip (hd : dstOK N o = true) (hw : wantA ops.toList T o = false) (hk : gK ops.toList T o = true) (p : AList P N ops rest Q (putT T o.dst undef) h) : AList P N ops (o :: rest) Q T h := fun fr ρ0 h0 w0 ρ w a H F ht => by
  unfold wpListIn
  rw [wantA_eq ht o hk, hw, if_neg (by simp)]
  refine ⟨fun _ _ => trivial, ?_⟩
  have := p fr ρ0 h0 w0 ρ w _ H F (ht.put (dstOK_spec hd) VR.undef)
  rw [Act.put_defers] at this
  exact this
theorem HR.next_none {ρ : Ren} {w : World} (H : HR P ρ h w) : h.get h.next = none := by
  cases e : h.get h.next with
  | none => rfl
  | some o => have := H.lt h.next (by rw [e]; simp); omega
theorem AList.op (hE : EnvOK P E) (hng : ng ≤ P.globals.size) (hd : dstOK N o = true) (hw : wantA ops.toList T o = true) (hok : okL ng o.op.operands.toList = true) {v : Value} {e : HE}
    (hr : opA E T h.get h.next o.op = some (v, e)) (p : AList P N ops rest Q (putT T o.dst v) (e.app h.next h)) : AList P N ops (o :: rest) Q T h := fun fr ρ0 h0 w0 ρ w a H F ht => by
  unfold wpListIn
  rw [wantA_eq ht o (gK_of_want hw), hw, if_pos rfl]
  obtain ⟨ρ', w', u, h1, h2, h3, h4⟩ := opA_sound hE H hng ht hok hr H.next_none (Nat.le_refl h.next)
  have := p fr ρ0 h0 w0 ρ' w' (a.put o.dst u) h3 (F.trans h4 F.next) ((ht.mono (h4.ren H)).put (dstOK_spec hd) h2)
  rw [Act.put_defers] at this
  refine ⟨fun _ _ => trivial, ?_⟩
  rw [Oper.semAt_eq _ _ _ (opA_nodefer hr)]
  rcases h1 with h1 | ⟨h1, rfl⟩
  · rw [h1]; exact this
  · rw [h1]; exact this
theorem AList.call (hng : ng ≤ P.globals.size) (hd : dstOK N o = true) (hw : wantA ops.toList T o = true) (hok : okL ng o.op.operands.toList = true) {c : Call} {f : Operand} (hop : o.op = .call c) (hc : c.callee = .value f)
    {g : FuncId} {x y : Array Value} (hf : evo T f = .func (.func g) x y) (hg : Enters P g)
    (p : ACalls P g (x.toList ++ evL T c.args.toList ++ y.toList) (fun e h' => match e with | .ret v => AList P N ops rest Q (putT T o.dst v) h' | .panic v => Q (.panic v) T h') h) : AList P N ops (o :: rest) Q T h := fun fr ρ0 h0 w0 ρ w a H F ht => by
  unfold wpListIn
  rw [wantA_eq ht o (gK_of_want hw), hw, if_pos rfl]
  refine ⟨fun _ _ => trivial, ?_⟩
  have hm := okL_mem hok
  simp only [hop, Op.operands, Call.operands, hc, Array.toList_append, List.mem_append] at hm
  have hfv := evo_sound H hng ht (hm f (.inl (by simp)))
  rw [hf] at hfv
  obtain ⟨x', y', h1, h2, h3⟩ := hfv
  have hargs := evL_sound (T := T) (ev := a.eval) (l := c.args.toList) (fun z hz => evo_sound H hng ht (hm z (.inr hz)))
  have hv : VRL ρ (x.toList ++ evL T c.args.toList ++ y.toList) (x' ++ c.args.map a.eval ++ y').toList := by
    simp only [Array.toList_append, Array.toList_map]
    exact ((VRA.iff.1 h2).append hargs).append (VRA.iff.1 h3)
  have hrun : (execOp a.eval o).run P w = .ok (.enter g (x' ++ c.args.map a.eval ++ y')) w := by
    have := hg (x' ++ c.args.map a.eval ++ y') w
    simp [execOp, hop, resolve, hc, h1, Deferred.ofValue, invoke] at this ⊢
    exact this
  rw [Oper.semAt_eq _ _ _ (fun c h => by rw [hop] at h; cases h), hrun, Oper.uponIn_enter]
  refine ⟨fun h => (by cases h), enter_in ?_⟩
  refine (p ρ w _ H hv).mono ?_
  rintro e w' ⟨e', ρ', h', k1, k2, k3, k4⟩
  cases e' with
  | ret v =>
    obtain ⟨cv, rfl, k5⟩ := k1
    have := k4 fr ρ0 h0 w0 ρ' w' (a.put o.dst cv) k2 (F.trans k3 F.next) ((ht.mono (k3.ren H)).put (dstOK_spec hd) k5)
    rw [Act.put_defers] at this
    exact this
  | panic v =>
    obtain ⟨cv, rfl, k5⟩ := k1
    exact ⟨.panic v, ρ', T, h', ⟨cv, rfl, k5⟩, k2, F.trans k3 F.next, ht.mono (k3.ren H), rfl, k4⟩
/-- which function is a type's method -/
def MethOK (P : Program) (t : Nat) (name : String) (g : FuncId) : Prop := ∀ v w, (method (P.types.size + Made.depth) t v name).run P w = .ok (g, v) w
theorem AList.invoke (hng : ng ≤ P.globals.size) (hd : dstOK N o = true) (hw : wantA ops.toList T o = true) (hok : okL ng o.op.operands.toList = true) {c : Call} {f : Operand} {name : String} (hop : o.op = .call c) (hc : c.callee = .invoke f name)
    {g : FuncId} {t : Nat} {x : Value} (hf : evo T f = .iface t x) (hg : Enters P g) (hm : MethOK P t name g)
    (p : ACalls P g (x :: evL T c.args.toList) (fun e h' => match e with | .ret v => AList P N ops rest Q (putT T o.dst v) h' | .panic v => Q (.panic v) T h') h) : AList P N ops (o :: rest) Q T h := fun fr ρ0 h0 w0 ρ w a H F ht => by
  unfold wpListIn
  rw [wantA_eq ht o (gK_of_want hw), hw, if_pos rfl]
  refine ⟨fun _ _ => trivial, ?_⟩
  have hmem := okL_mem hok
  simp only [hop, Op.operands, Call.operands, hc, Array.toList_append, List.mem_append] at hmem
  have hfv := evo_sound H hng ht (hmem f (.inl (by simp)))
  rw [hf] at hfv
  obtain ⟨x', h1, h2⟩ := hfv
  have hargs := evL_sound (T := T) (ev := a.eval) (l := c.args.toList) (fun z hz => evo_sound H hng ht (hmem z (.inr hz)))
  have hv : VRL ρ (x :: evL T c.args.toList) (#[x'] ++ c.args.map a.eval).toList := by
    simp only [Array.toList_append, Array.toList_map]
    exact ⟨x', _, rfl, h2, hargs⟩
  have hrun : (execOp a.eval o).run P w = .ok (.enter g (#[x'] ++ c.args.map a.eval)) w := by
    have hex : (#[Value.iface t x'] ++ c.args.map a.eval).extract 1 (#[Value.iface t x'] ++ c.args.map a.eval).size = c.args.map a.eval := by
      apply Array.ext'
      simp [List.take_of_length_le]
    have h3 := hg (#[x'] ++ c.args.map a.eval) w
    have h4 := hm x' w
    have hget : (#[Value.iface t x'] ++ c.args.map a.eval)[0]? = some (Value.iface t x') := by rw [← Array.getElem?_toList, Array.toList_append]; rfl
    simp only [execOp, hop, resolve, hc, h1, Sem.run_bind, Sem.run_pure, Result.andThen_ok, Go.invoke, hget, hex, callMethod, run_program, h4, h3]
  rw [Oper.semAt_eq _ _ _ (fun c h => by rw [hop] at h; cases h), hrun, Oper.uponIn_enter]
  refine ⟨fun h => (by cases h), enter_in ?_⟩
  refine (p ρ w _ H hv).mono ?_
  rintro e w' ⟨e', ρ', h', k1, k2, k3, k4⟩
  cases e' with
  | ret v =>
    obtain ⟨cv, rfl, k5⟩ := k1
    have := k4 fr ρ0 h0 w0 ρ' w' (a.put o.dst cv) k2 (F.trans k3 F.next) ((ht.mono (k3.ren H)).put (dstOK_spec hd) k5)
    rw [Act.put_defers] at this
    exact this
  | panic v =>
    obtain ⟨cv, rfl, k5⟩ := k1
    exact ⟨.panic v, ρ', T, h', ⟨cv, rfl, k5⟩, k2, F.trans k3 F.next, ht.mono (k3.ren H), rfl, k4⟩
theorem AList.panic (hng : ng ≤ P.globals.size) (hw : wantA ops.toList T o = true) (hok : okL ng o.op.operands.toList = true) {x : Operand} (hop : o.op = .panic x) {t : Nat} {v : Value} (hx : evo T x = .iface t v)
    (q : Q (.panic (.iface t v)) T h) : AList P N ops (o :: rest) Q T h := fun fr ρ0 h0 w0 ρ w a H F ht => by
  unfold wpListIn
  rw [wantA_eq ht o (gK_of_want hw), hw, if_pos rfl]
  refine ⟨fun _ _ => trivial, ?_⟩
  have hv := evo_sound H hng ht (okL_mem hok x (by simp [hop, Op.operands]))
  rw [hx] at hv
  obtain ⟨v', h1, h2⟩ := hv
  have hrun : (execOp a.eval o).run P w = .halt (.panic (.iface t v')) w := by simp [execOp, hop, h1, Instr.panic, goPanic]
  rw [Oper.semAt_eq _ _ _ (fun c h => by rw [hop] at h; cases h), hrun, Oper.uponIn_panic]
  exact Post.trans F ⟨.panic (.iface t v), ρ, T, h, ⟨_, rfl, v', rfl, h2⟩, H, Fr.refl _ _ _ _, ht, rfl, q⟩
theorem AList.next (hng : ng ≤ P.globals.size) (hd : dstOK N o = true) (hw : wantA ops.toList T o = true) (hok : okL ng o.op.operands.toList = true) {x : Operand} {str : Bool} (hop : o.op = .next x str) {L : List (Value × HE)}
    (hr : nextA h.get (evo T x) str = some L) (p : ∀ r ∈ L, AList P N ops rest Q (putT T o.dst r.1) (r.2.app h.next h)) : AList P N ops (o :: rest) Q T h := fun fr ρ0 h0 w0 ρ w a H F ht => by
  unfold wpListIn
  rw [wantA_eq ht o (gK_of_want hw), hw, if_pos rfl]
  refine ⟨fun _ _ => trivial, ?_⟩
  have hv := evo_sound H hng ht (okL_mem hok x (by simp [hop, Op.operands]))
  obtain ⟨r, e, hin, w', u, h1, h2, h3, h4⟩ := nextA_sound (ty := o.type) (nid := h.next) H hv hr h.next
  have := p _ hin fr ρ0 h0 w0 ρ w' (a.put o.dst u) h3 (F.trans h4 F.next) (ht.put (dstOK_spec hd) h2)
  rw [Act.put_defers] at this
  have hrun : (execOp a.eval o).run P w = .ok (.value u) w' := by simp [execOp, hop, h1]
  rw [Oper.semAt_eq _ _ _ (fun c h => by rw [hop] at h; cases h), hrun]
  exact this
/- functions -/
def argT : List Value → Nat → Value
  | [] => fun _ => undef
  | v :: l => fun t => match t with | 0 => v | t + 1 => argT l t
theorem argT_eq : ∀ (l : List Value) (t : Nat), argT l t = l[t]?.getD undef
  | [], t => by simp [argT]
  | v :: l, 0 => by simp [argT]
  | v :: l, t + 1 => by simp [argT, argT_eq l t]
/-- what a function returns -/
def resL (E : Nat → Option TI) (T : Nat → Value) (get : Nat → Option AObj) : List ResultVar → Option (List Value)
  | [] => some []
  | .tmp t :: l => (match resL E T get l with | some r => some (T t :: r) | none => none)
  | .cell a t :: l => (match loadA E get t (T a), resL E T get l with | some v, some r => some (v :: r) | _, _ => none)
def oneV : List Value → Value
  | [v] => v
  | l => .tuple l.toArray
def resF (tmps : Array Value) : ResultVar → Sem Value
  | .tmp t => pure (tmps.getD t undef)
  | .cell x t => do loadVar t (← asAddr (tmps.getD x undef))
theorem results_eq (fn : Func) (tmps : Array Value) : results fn tmps = (do let vs ← fn.results.mapM (resF tmps); pure (if h : vs.size = 1 then vs[0] else .tuple vs)) := by
  unfold results
  have : (fun x => match x with | ResultVar.tmp t => pure (tmps.getD t undef) | ResultVar.cell a t => do loadVar t (← asAddr (tmps.getD a undef)) : ResultVar → Sem Value) = resF tmps := by
    funext x
    cases x <;> rfl
  exact congrArg (fun f => (do let vs ← fn.results.mapM f; pure (if h : vs.size = 1 then vs[0] else .tuple vs) : Sem Value)) this
theorem resL_sound (hE : EnvOK P E) {ρ : Ren} {w : World} {a : Act} (H : HR P ρ h w) (ht : TR ρ T N a) : ∀ (l : List ResultVar) {r : List Value}, resL E T h.get l = some r →
    ∃ c : List Value, VRL ρ r c ∧ (l.mapM (resF a.tmps)).run P w = .ok c w
  | [], r, hr => by cases hr; exact ⟨[], rfl, by simp⟩
  | .tmp t :: l, r, hr => by
    simp only [resL] at hr
    split at hr
    · rename_i r' hr'
      cases hr
      obtain ⟨c, h1, h2⟩ := resL_sound hE H ht l hr'
      refine ⟨_, ⟨_, _, rfl, ht.2 t, h1⟩, ?_⟩
      simp only [List.mapM_cons, Sem.run_bind, resF, Sem.run_pure, Result.andThen_ok, h2]
    · cases hr
  | .cell x t :: l, r, hr => by
    simp only [resL] at hr
    split at hr
    · rename_i v r' hv hr'
      cases hr
      obtain ⟨c, h1, h2⟩ := resL_sound hE H ht l hr'
      obtain ⟨u, h3, h4⟩ := loadA_sound hE H (ht.2 x) hv
      have hp : ∃ ad, a.tmps.getD x undef = .pointer (some ad) := by
        have hx := ht.2 x
        unfold loadA at hv
        split at hv
        · rename_i ha hi
          rw [ha] at hx
          obtain ⟨l0, _, _, e⟩ := hx
          exact ⟨_, e⟩
        · cases hv
      obtain ⟨ad, had⟩ := hp
      rw [had] at h3
      have h5 : (loadVar t ad).run P w = .ok u w := by simpa [Instr.loadAt, Instr.sureAddr] using h3
      refine ⟨_, ⟨_, _, rfl, h4, h1⟩, ?_⟩
      simp only [List.mapM_cons, Sem.run_bind, resF, had, asAddr, Sem.run_pure, Result.andThen_ok, h5, h2]
    · cases hr
theorem results_sound (hE : EnvOK P E) {ρ : Ren} {w : World} {a : Act} (H : HR P ρ h w) (ht : TR ρ T N a) {fn : Func} {r : List Value} (hr : resL E T h.get fn.results.toList = some r) :
    ∃ c, (results fn a.tmps).run P w = .ok c w ∧ VR ρ (oneV r) c := by
  obtain ⟨c, h1, h2⟩ := resL_sound hE H ht _ hr
  have h3 : (fn.results.mapM (resF a.tmps)).run P w = .ok c.toArray w := by
    have : fn.results.mapM (resF a.tmps) = List.toArray <$> fn.results.toList.mapM (resF a.tmps) := by
      rw [Array.mapM_eq_mapM_toList]
    rw [this]
    simp [h2]
  rw [results_eq]
  refine ⟨_, by simp only [Sem.run_bind, h3, Result.andThen_ok, Sem.run_pure]; rfl, ?_⟩
  cases r with
  | nil => cases h1; exact ⟨_, rfl, rfl⟩
  | cons v r =>
    obtain ⟨c0, c1, rfl, h4, h5⟩ := h1
    cases r with
    | nil => cases h5; exact h4
    | cons v2 r =>
      obtain ⟨c2, c3, rfl, h6, h7⟩ := h5
      rw [dif_neg (by simp)]
      exact ⟨_, rfl, c0, _, rfl, h4, c2, c3, rfl, h6, h7⟩
/-- how a body is left -/
def bodyA (E : Nat → Option TI) (fn : Func) (Q : AEnd → Hp → Prop) : APost
  | .normal, T, h | .ret, T, h => ∃ r, resL E T h.get fn.results.toList = some r ∧ Q (.ret (oneV r)) h
  | .panic v, _, h => Q (.panic v) h
  | _, _, _ => False
theorem argT_TR {ρ : Ren} {args : List Value} {cs : Array Value} (n : Nat) (hv : VRL ρ args cs.toList) : TR ρ (argT args) (max args.length n) { tmps := cs ++ Array.replicate (n - cs.size) undef, defers := [] } := by
  have hl := hv.length
  simp only [Array.length_toList] at hl
  refine ⟨by simp [hl]; omega, fun t => ?_⟩
  rw [argT_eq]
  simp only [Array.getD_eq_getD_getElem?]
  cases ha : args[t]? with
  | none =>
    have hge : args.length ≤ t := by simpa using ha
    have : (cs ++ Array.replicate (n - cs.size) Go.undef)[t]?.getD Go.undef = Go.undef := by
      rw [Array.getElem?_append, if_neg (by omega), Array.getElem?_replicate]
      split <;> rfl
    rw [this]
    exact VR.undef
  | some v =>
    obtain ⟨c, h1, h2⟩ := hv.get t v ha
    have hlt : t < cs.size := by have := (List.getElem?_eq_some_iff.1 h1).1; simpa using this
    have : (cs ++ Array.replicate (n - cs.size) Go.undef)[t]? = some c := by
      rw [Array.getElem?_append, if_pos hlt]
      simpa using h1
    rw [this]
    exact h2
theorem ACalls.body (hE : EnvOK P E) {f : FuncId} {fn : Func} {c : Code} {args : List Value} {Q : AEnd → Hp → Prop} (hf : P.funcs[f]? = some fn) (hb : fn.body = some c)
    (p : AWp P (max args.length fn.ntmps) c (bodyA E fn Q) (argT args) h) : ACalls P f args Q h := fun ρ w cs H hv => by
  refine calls_of_wp hf hb (wpIn_wide.1 (wpIn_mono (p none ρ w _ H (argT_TR fn.ntmps hv)) ?_))
  rintro e a' w' ⟨e', ρ', T', h', p1, p2, p3, p4, p5, p6⟩
  cases e' with
  | normal =>
    cases p1
    obtain ⟨r, k1, k2⟩ := p6
    obtain ⟨v, k3, k4⟩ := results_sound hE p2 p4 k1
    exact ⟨p5, v, k3, .ret (oneV r), ρ', h', ⟨v, rfl, k4⟩, p2, p3, k2⟩
  | ret =>
    cases p1
    obtain ⟨r, k1, k2⟩ := p6
    obtain ⟨v, k3, k4⟩ := results_sound hE p2 p4 k1
    exact ⟨p5, v, k3, .ret (oneV r), ρ', h', ⟨v, rfl, k4⟩, p2, p3, k2⟩
  | panic v =>
    obtain ⟨cv, rfl, k1⟩ := p1
    exact ⟨p5, .panic v, ρ', h', ⟨cv, rfl, k1⟩, p2, p3, p6⟩
  | exit n => exact p6.elim
  | goto l => exact p6.elim
end
end Go.Ab
/- Regions that ask for their order: what is the same in each order. -/
namespace Go.Ab
open Go.RowKit
section
variable (P : Program)
/-- one operation, whatever its frame is -/
def Raw (o : Oper) (ev : Operand → Value) (w : World) (K : Value → World → Prop) (KP : List PanicEntry → World → Prop) : Prop :=
  match (execOp ev o).run P w with
  | .ok (.value v) w' => K v w'
  | .ok .skip w' => K undef w'
  | .ok (.enter f args) w' => Calls P f args w' fun e w'' => match e with | .returned v => K v w'' | .panicked c => KP c w'' | .outgrown => False
  | .ok (.round l f tmps assign body) w' => RoundIn Fence.wide 0 P l f tmps assign body w' fun e w'' => match e with | .returned v => K v w'' | .panicked c => KP c w'' | .outgrown => False
  | .halt (.panic v) w' => KP [{ v, recovered := false }] w'
  | _ => False
end
section
variable {P : Program}
theorem Raw.nodefer {o : Oper} {ev : Operand → Value} {w : World} {K : Value → World → Prop} {KP : List PanicEntry → World → Prop} (h : Raw P o ev w K KP) : ∀ c, o.op ≠ .defer c := fun c hop => by
  unfold Raw execOp at h
  simp only [hop, resolve] at h
  cases hc : c.callee with
  | builtin b => simp [hc] at h
  | invoke f n => simp [hc] at h
  | value f =>
    simp only [hc] at h
    unfold Deferred.ofValue at h
    cases hv : ev f <;> simp [hv] at h
theorem Raw.wp {r : Option Nat} {o : Oper} {a : Act} {w : World} {K : Act → World → Prop} {Q : Exit → Act → World → Prop} (h : Raw P o a.eval w (fun v w' => K (a.put o.dst v) w') (fun c w' => Q (.panic c) a w')) : o.wpIn (FR r) 0 P a w K Q := by
  refine ⟨fun _ _ => trivial, ?_⟩
  rw [Oper.semAt_eq _ _ _ h.nodefer]
  unfold Raw at h
  generalize (execOp a.eval o).run P w = r at *
  cases r with
  | ok n w' =>
    cases n <;> first | exact h.elim | exact h | skip
    · refine ⟨fun h => (by cases h), enter_in (Calls.mono h fun e w'' he => ?_)⟩
      cases e <;> first | exact he | exact he.elim
    · refine ⟨fun h => (by cases h), ?_⟩
      refine RoundIn.mono (F := FR _) (show RoundIn (FR _) 0 P _ _ _ _ _ _ _ from h) fun e w'' he => ?_
      cases e <;> first | exact he | exact he.elim
  | halt x w' => cases x <;> first | exact h.elim | exact h
theorem Raw.mono {o : Oper} {ev : Operand → Value} {w : World} {K K' : Value → World → Prop} {KP KP' : List PanicEntry → World → Prop} (hk : ∀ v w, K v w → K' v w) (hp : ∀ c w, KP c w → KP' c w)
    (h : Raw P o ev w K KP) : Raw P o ev w K' KP' := by
  unfold Raw at *
  generalize (execOp ev o).run P w = r at *
  cases r with
  | ok n w' =>
    cases n <;> first | exact h.elim | exact hk _ _ h | skip
    · refine Calls.mono h fun e w'' he => ?_
      cases e <;> first | exact hk _ _ he | exact hp _ _ he | exact he.elim
    · refine RoundIn.mono h fun e w'' he => ?_
      cases e <;> first | exact hk _ _ he | exact hp _ _ he | exact he.elim
  | halt x w' => cases x <;> first | exact h.elim | exact hp _ _ h
def AOne (P : Program) (o : Oper) (T : Nat → Value) (h : Hp) (R : Value → Hp → Prop) (RP : Value → Hp → Prop) : Prop :=
  ∀ ρ w ev, HR P ρ h w → (∀ x ∈ o.op.operands.toList, VR ρ (evo T x) (ev x)) →
    Raw P o ev w (fun c w' => ∃ ρ' v h', HR P ρ' h' w' ∧ Fr h.next ρ h w ρ' h' w' ∧ VR ρ' v c ∧ R v h')
      (fun ch w' => ∃ ρ' v c h', ch = [{ v := c, recovered := false }] ∧ HR P ρ' h' w' ∧ Fr h.next ρ h w ρ' h' w' ∧ VR ρ' v c ∧ RP v h')
theorem AOne.mono {o : Oper} {T : Nat → Value} {h : Hp} {R R' RP : Value → Hp → Prop} (hr : ∀ v h', R v h' → R' v h') (p : AOne P o T h R RP) : AOne P o T h R' RP := fun ρ w ev H hv =>
  (p ρ w ev H hv).mono (fun _ _ ⟨ρ', v, h', k1, k2, k3, k4⟩ => ⟨ρ', v, h', k1, k2, k3, hr _ _ k4⟩) (fun _ _ h => h)
theorem AOne.congr {o : Oper} {T T' : Nat → Value} {h : Hp} {R RP : Value → Hp → Prop} (he : ∀ x ∈ o.op.operands.toList, evo T x = evo T' x) (p : AOne P o T h R RP) : AOne P o T' h R RP := fun ρ w ev H hv =>
  p ρ w ev H fun x hx => by rw [he x hx]; exact hv x hx
/-- temporaries that an operation looks at -/
def agree (ops : Array Oper) (o : Oper) (T T' : Nat → Value) : Prop := ∀ d ∈ o.looksAt ops, T d = T' d
theorem agree.evo {ops : Array Oper} {o : Oper} {T T' : Nat → Value} (h : agree ops o T T') : ∀ x ∈ o.op.operands.toList, evo T x = evo T' x := fun x hx => by
  cases x with
  | tmp t => exact h t (List.mem_append_left _ (List.mem_filterMap.2 ⟨.tmp t, hx, rfl⟩))
  | const v => rfl
  | global g => rfl
  | func f => rfl
theorem agree.want {ops : Array Oper} {o : Oper} {T T' : Nat → Value} (h : agree ops o T T') : wantA ops.toList T o = wantA ops.toList T' o := by
  unfold wantA
  cases hg : o.guard with
  | none => rfl
  | some g =>
    obtain ⟨j, b⟩ := g
    simp only [nth_eq, Array.getElem?_toList]
    cases ho : ops[j]? with
    | none => rfl
    | some o' =>
      simp only
      cases hd : o'.dst with
      | none => rfl
      | some d => simp only; rw [h d (by simp [Oper.looksAt, hg, ho, hd])]
theorem agree.gk {ops : Array Oper} {o : Oper} {T T' : Nat → Value} (h : agree ops o T T') : gK ops.toList T o = gK ops.toList T' o := by
  unfold gK
  cases hg : o.guard with
  | none => rfl
  | some g =>
    obtain ⟨j, b⟩ := g
    simp only [nth_eq, Array.getElem?_toList]
    cases ho : ops[j]? with
    | none => rfl
    | some o' =>
      simp only
      cases hd : o'.dst with
      | none => rfl
      | some d => simp only; rw [h d (by simp [Oper.looksAt, hg, ho, hd])]
theorem agree.refl {ops : Array Oper} {o : Oper} {T : Nat → Value} : agree ops o T T := fun _ _ => rfl
theorem agree.put {ops : Array Oper} {o : Oper} {T T' : Nat → Value} {d : Option Nat} {v : Value} (h : agree ops o T T') (hd : ∀ i, d = some i → i ∉ o.looksAt ops) : agree ops o T (putT T' d v) := fun i hi => by
  cases d with
  | none => exact h i hi
  | some d =>
    simp only [putT]
    rw [if_neg (fun e : i = d => hd d rfl (e ▸ hi))]
    exact h i hi
def Closed (ops : Array Oper) (l : Array Bool) : Prop := ∀ (i : Nat) (o : Oper), ops[i]? = some o → l.getD i false = true → ∀ e ∈ o.after, Region.binds .any e = true → l.getD e.on false = true
theorem Closed.add {ops : Array Oper} {l : Array Bool} {i : Nat} (hc : Closed ops l) (hr : i ∈ Region.ready .any ops l) : Closed ops (l.setIfInBounds i true) := fun j o ho hj e he hb => by
  refine getD_set_true ?_
  by_cases hij : i = j
  · subst hij
    obtain ⟨_, o', ho', hall⟩ := mem_ready.1 hr
    rw [ho] at ho'
    cases ho'
    exact hall e he hb
  · rw [getD_set_ne false hij] at hj
    exact hc j o ho hj e he hb
section tree
variable (P) (N : Nat) (ops : Array Oper) (Q : APost) (QP : Value → Hp → Prop) (S : Array Bool → Hp → Prop)
/-- whatever order comes -/
def DAny : Nat → Array Bool → (Nat → Value) → Hp → Prop
  | 0, l, T, h => Region.ready .any ops l = [] ∧ Q .normal T h
  | n + 1, l, T, h => (Region.ready .any ops l = [] → Q .normal T h) ∧ ∀ i ∈ Region.ready .any ops l, ∀ o, ops[i]? = some o →
      (wantA ops.toList T o = true → AOne P o T h (fun v h' => S (l.setIfInBounds i true) h' ∧ DAny n (l.setIfInBounds i true) (putT T o.dst v) h') QP) ∧
      (wantA ops.toList T o = false → gK ops.toList T o = true ∧ S (l.setIfInBounds i true) h ∧ DAny n (l.setIfInBounds i true) (putT T o.dst undef) h)
end tree
section
variable {N : Nat} {ops : Array Oper} {Q : APost} {QP : Value → Hp → Prop} {S S' : Array Bool → Hp → Prop}
theorem DAny.mono (hS : ∀ l h, S l h → S' l h) : ∀ (n : Nat) {l : Array Bool} {T : Nat → Value} {h : Hp}, DAny P ops Q QP S n l T h → DAny P ops Q QP S' n l T h
  | 0, _, _, _, p => p
  | n + 1, _, _, _, p => ⟨p.1, fun i hi o ho => ⟨fun hw => ((p.2 i hi o ho).1 hw).mono fun _ _ q => ⟨hS _ _ q.1, DAny.mono hS n q.2⟩, fun hw => ⟨((p.2 i hi o ho).2 hw).1, hS _ _ ((p.2 i hi o ho).2 hw).2.1, DAny.mono hS n ((p.2 i hi o ho).2 hw).2.2⟩⟩⟩
theorem DAny.sound {fr : Option Nat} {ng : Nat} (hng : ng ≤ P.globals.size) (hQP : ∀ v T h, QP v h → Q (.panic v) T h) (hok : ∀ (i : Nat) (o : Oper), ops[i]? = some o → okL ng o.op.operands.toList = true ∧ dstOK N o = true) :
    ∀ (n : Nat) {l : Array Bool} {T : Nat → Value} {h : Hp} {ρ0 ρ : Ren} {h0 : Hp} {w0 w : World} {a : Act}, DAny P ops Q QP S n l T h → HR P ρ h w → Fr h0.next ρ0 h0 w0 ρ h w → TR ρ T N a →
      wpAnyIn (FR fr) 0 P .any ops (Post P ρ0 h0 w0 N a.defers Q) n l a w
  | 0, l, T, h, ρ0, ρ, h0, w0, w, a, p, H, F, ht => ⟨p.1, Post.trans F (.here (e := .normal) H ht rfl p.2)⟩
  | n + 1, l, T, h, ρ0, ρ, h0, w0, w, a, p, H, F, ht => by
    refine ⟨fun hr => Post.trans F (.here (e := .normal) H ht rfl (p.1 hr)), fun i hi => ?_⟩
    obtain ⟨_, o, ho, _⟩ := mem_ready.1 hi
    obtain ⟨hk, hd⟩ := hok i o ho
    unfold wpOpIn
    simp only [ho]
    cases hw : wantA ops.toList T o with
    | true =>
      rw [wantA_eq ht o (gK_of_want hw), hw, if_pos rfl]
      refine Raw.wp ?_
      have hv : ∀ x ∈ o.op.operands.toList, VR ρ (evo T x) (a.eval x) := fun x hx => evo_sound H hng ht (okL_mem hk x hx)
      refine ((p.2 i hi o ho).1 hw ρ w a.eval H hv).mono ?_ ?_
      · rintro c w' ⟨ρ', v, h', k1, k2, k3, _, k4⟩
        have := DAny.sound (fr := fr) hng hQP hok n k4 k1 (F.trans k2 F.next) ((ht.mono (k2.ren H)).put (dstOK_spec hd) k3)
        rw [Act.put_defers] at this
        exact this
      · rintro ch w' ⟨ρ', v, c, h', rfl, k1, k2, k3, k4⟩
        exact ⟨.panic v, ρ', T, h', ⟨c, rfl, k3⟩, k1, F.trans k2 F.next, ht.mono (k2.ren H), rfl, hQP _ _ _ k4⟩
    | false =>
      rw [wantA_eq ht o ((p.2 i hi o ho).2 hw).1, hw, if_neg (by simp)]
      refine ⟨fun _ _ => trivial, ?_⟩
      have := DAny.sound (fr := fr) hng hQP hok n ((p.2 i hi o ho).2 hw).2.2 H F (ht.put (dstOK_spec hd) VR.undef)
      rw [Act.put_defers] at this
      exact this
theorem AWp.draw {ng id : Nat} (hm : P.follows .mixedOrders = true) (hng : ng ≤ P.globals.size) (hQP : ∀ v T h, QP v h → Q (.panic v) T h) (hok : ∀ (i : Nat) (o : Oper), ops[i]? = some o → okL ng o.op.operands.toList = true ∧ dstOK N o = true)
    {T : Nat → Value} {h : Hp} (p : DAny P ops Q QP S ops.size (Array.replicate ops.size false) T h) : AWp P N (.region id ops true) Q T h := fun _ _ _ _ H ht =>
  wpIn_region_any hm (DAny.sound hng hQP hok _ p (H.draw _) (Fr.draw _ _ _ _ _) ht)
theorem DAny.done {l : Array Bool} {T : Nat → Value} {h : Hp} (hr : Region.ready .any ops l = []) (q : Q .normal T h) : ∀ n, DAny P ops Q QP S n l T h
  | 0 => ⟨hr, q⟩
  | _ + 1 => ⟨fun _ => q, by rw [hr]; simp⟩
theorem DAny.only {n j : Nat} {o : Oper} {l : Array Bool} {T : Nat → Value} {h : Hp} (hr : Region.ready .any ops l = [j]) (ho : ops[j]? = some o)
    (p1 : wantA ops.toList T o = true → AOne P o T h (fun v h' => S (l.setIfInBounds j true) h' ∧ DAny P ops Q QP S n (l.setIfInBounds j true) (putT T o.dst v) h') QP)
    (p2 : wantA ops.toList T o = false → gK ops.toList T o = true ∧ S (l.setIfInBounds j true) h ∧ DAny P ops Q QP S n (l.setIfInBounds j true) (putT T o.dst undef) h) : DAny P ops Q QP S (n + 1) l T h :=
  ⟨fun h0 => (by rw [hr] at h0; cases h0), fun i hi o' ho' => by
    rw [hr] at hi
    cases List.mem_singleton.1 hi
    rw [ho] at ho'
    cases ho'
    exact ⟨p1, p2⟩⟩
theorem putT_comm {T : Nat → Value} {x y : Option Nat} {v u : Value} (h : ∀ d, x = some d → y ≠ some d) : putT (putT T x v) y u = putT (putT T y u) x v := by
  cases x with
  | none => rfl
  | some d =>
    cases y with
    | none => rfl
    | some e =>
      have hne : d ≠ e := fun he => h d rfl (he ▸ rfl)
      funext t
      simp only [putT]
      by_cases h1 : t = e
      · subst h1; rw [if_pos rfl, if_neg (Ne.symm hne), if_pos rfl]
      · rw [if_neg h1]
        by_cases h2 : t = d
        · subst h2; rw [if_pos rfl, if_pos rfl]
        · rw [if_neg h2, if_neg h2, if_neg h1]
theorem agree.symm {o : Oper} {T T' : Nat → Value} (h : agree ops o T T') : agree ops o T' T := fun d hd => (h d hd).symm
/-- a float may be taken first -/
theorem DAny.first {i : Nat} {oi : Oper} {v : Value} (hi : ops[i]? = some oi) (hS1 : ∀ l h, S (l.setIfInBounds i true) h → S l h) (hS2 : ∀ l h, S l h → S (l.setIfInBounds i true) h) {T0 : Nat → Value}
    (hf : ∀ l T h, S l h → Closed ops l → i ∈ Region.ready .any ops l → agree ops oi T0 T → (wantA ops.toList T oi = true → AOne P oi T h (fun v' h' => v' = v ∧ h' = h) QP) ∧ (wantA ops.toList T oi = false → gK ops.toList T oi = true ∧ v = undef)) :
    ∀ (n : Nat) (l : Array Bool) (T : Nat → Value) (h : Hp),
      (∀ j oj, ops[j]? = some oj → j ≠ i → l.getD j true = false → (∀ e ∈ oj.after, Region.binds .any e = true → e.on ≠ i) → oi.apart ops oj = true) →
      i ∈ Region.ready .any ops l → Closed ops l → agree ops oi T0 T → S l h → DAny P ops Q QP S n (l.setIfInBounds i true) (putT T oi.dst v) h → DAny P ops Q QP S (n + 1) l T h := by
  intro n
  induction n with
  | zero =>
    intro l T h _ hr hc ha hs p
    refine ⟨fun h0 => (by rw [h0] at hr; cases hr), fun j hj o ho => ?_⟩
    by_cases hji : j = i
    · subst hji
      rw [hi] at ho
      cases ho
      obtain ⟨f1, f2⟩ := hf l T h hs hc hr ha
      refine ⟨fun hw => (f1 hw).mono ?_, fun hw => ?_⟩
      · rintro v' h' ⟨rfl, rfl⟩
        exact ⟨hS2 _ _ hs, p⟩
      · obtain ⟨hk, rfl⟩ := f2 hw
        exact ⟨hk, hS2 _ _ hs, p⟩
    · have := ready_mono hj hji
      rw [p.1] at this
      cases this
  | succ n ih =>
    intro l T h hfree hr hc ha hs p
    refine ⟨fun h0 => (by rw [h0] at hr; cases hr), fun j hj o ho => ?_⟩
    by_cases hji : j = i
    · subst hji
      rw [hi] at ho
      cases ho
      obtain ⟨f1, f2⟩ := hf l T h hs hc hr ha
      refine ⟨fun hw => (f1 hw).mono ?_, fun hw => ?_⟩
      · rintro v' h' ⟨rfl, rfl⟩
        exact ⟨hS2 _ _ hs, p⟩
      · obtain ⟨hk, rfl⟩ := f2 hw
        exact ⟨hk, hS2 _ _ hs, p⟩
    · obtain ⟨p1, p2⟩ := p.2 j (ready_mono hj hji) o ho
      obtain ⟨hjun, oj, hoj, hall⟩ := mem_ready.1 hj
      rw [ho] at hoj
      cases hoj
      have hnot : ∀ e ∈ o.after, Region.binds .any e = true → e.on ≠ i := fun e he hb heq => by
        have h1 := hall e he hb
        have h0 := (mem_ready.1 hr).1
        rw [heq] at h1
        rcases Nat.lt_or_ge i l.size with h' | h'
        · simp [h'] at h0 h1; rw [h0] at h1; cases h1
        · simp [Array.getElem?_eq_none h'] at h1
      obtain ⟨a1, a2, a3⟩ := Oper.apart_spec (hfree j o ho hji hjun hnot)
      have hag : agree ops o (putT T oi.dst v) T := (agree.put (agree.refl (T := T)) a1).symm
      have hcomm : (l.setIfInBounds i true).setIfInBounds j true = (l.setIfInBounds j true).setIfInBounds i true := Array.setIfInBounds_comm _ _ (Ne.symm hji)
      have hfree' : ∀ k ok, ops[k]? = some ok → k ≠ i → (l.setIfInBounds j true).getD k true = false → (∀ e ∈ ok.after, Region.binds .any e = true → e.on ≠ i) → oi.apart ops ok = true := fun k ok hk hki hun hno => by
        refine hfree k ok hk hki ?_ hno
        by_cases hjk : j = k
        · subst hjk; exact hjun
        · rw [getD_set_ne true hjk] at hun; exact hun
      have next : ∀ u h', S ((l.setIfInBounds i true).setIfInBounds j true) h' → DAny P ops Q QP S n ((l.setIfInBounds i true).setIfInBounds j true) (putT (putT T oi.dst v) o.dst u) h' →
          S (l.setIfInBounds j true) h' ∧ DAny P ops Q QP S (n + 1) (l.setIfInBounds j true) (putT T o.dst u) h' := by
        intro u h' s1 d1
        rw [hcomm] at s1 d1
        rw [putT_comm a2] at d1
        have s2 := hS1 _ _ s1
        exact ⟨s2, ih _ _ _ hfree' (ready_mono hr (Ne.symm hji)) (hc.add hj) (ha.put a3) s2 d1⟩
      refine ⟨fun hw => ?_, fun hw => ?_⟩
      · rw [← hag.want] at hw
        exact ((p1 hw).congr hag.evo).mono fun u h' q => next u h' q.1 q.2
      · rw [← hag.want] at hw
        exact ⟨hag.gk ▸ (p2 hw).1, next undef h (p2 hw).2.1 (p2 hw).2.2⟩
end
end
end Go.Ab
/- A machine that runs code on the abstract heap. -/
namespace Go.Ab
open Go.RowKit
/-- a store of numbered things, as a tree -/
inductive Tr (α : Type) where
  | nil
  | node (l : Tr α) (v : Option α) (r : Tr α)
def Tr.get {α : Type} : Tr α → Nat → Option α
  | .nil, _ => none
  | .node l v r, n => bif Nat.beq n 0 then v else bif Nat.beq (n % 2) 1 then l.get (n / 2) else r.get (n / 2 - 1)
def Tr.set {α : Type} : Nat → Tr α → Nat → α → Tr α
  | 0, t, _, _ => t
  | f + 1, .nil, n, a => bif Nat.beq n 0 then .node .nil (some a) .nil else bif Nat.beq (n % 2) 1 then .node (Tr.set f .nil (n / 2) a) none .nil else .node .nil none (Tr.set f .nil (n / 2 - 1) a)
  | f + 1, .node l v r, n, a => bif Nat.beq n 0 then .node l (some a) r else bif Nat.beq (n % 2) 1 then .node (Tr.set f l (n / 2) a) v r else .node l v (Tr.set f r (n / 2 - 1) a)
theorem Tr.get_set {α : Type} : ∀ (f : Nat) (t : Tr α) (n m : Nat) (a : α), n + 1 < 2 ^ f → (t.set f n a).get m = if m = n then some a else t.get m
  | 0, t, n, m, a, h => by simp at h
  | f + 1, t, n, m, a, h => by
    have hp : 2 ^ (f + 1) = 2 * 2 ^ f := by rw [Nat.pow_succ]; omega
    rw [hp] at h
    have odd : ∀ x : Nat, Nat.beq (x % 2) 1 = true ↔ x % 2 = 1 := fun x => by simp
    have hn0 : ∀ x : Nat, Nat.beq x 0 = true ↔ x = 0 := fun x => by simp
    have key : ∀ (l : Tr α) (v : Option α) (r : Tr α), (Tr.get (bif Nat.beq n 0 then .node l (some a) r else bif Nat.beq (n % 2) 1 then .node (Tr.set f l (n / 2) a) v r else .node l v (Tr.set f r (n / 2 - 1) a)) m) = if m = n then some a else (Tr.node l v r).get m := by
      intro l v r
      have ihl := Tr.get_set f l (n / 2) (m / 2) a
      have ihr := Tr.get_set f r (n / 2 - 1) (m / 2 - 1) a
      cases h0 : Nat.beq n 0 with
      | true =>
        have := (hn0 n).1 h0
        subst this
        simp only [cond_true, Tr.get]
        cases hm : Nat.beq m 0 with
        | true => have := (hn0 m).1 hm; subst this; simp
        | false => have : m ≠ 0 := fun e => by rw [(hn0 m).2 e] at hm; cases hm
                   simp [this]
      | false =>
        have hne : n ≠ 0 := fun e => by rw [(hn0 n).2 e] at h0; cases h0
        simp only [cond_false]
        cases h1 : Nat.beq (n % 2) 1 with
        | true =>
          have h1' := (odd n).1 h1
          simp only [cond_true, Tr.get]
          cases hm : Nat.beq m 0 with
          | true => have := (hn0 m).1 hm; subst this; simp only [cond_true]; rw [if_neg (by omega)]
          | false =>
            have hm0 : m ≠ 0 := fun e => by rw [(hn0 m).2 e] at hm; cases hm
            simp only [cond_false]
            cases hm1 : Nat.beq (m % 2) 1 with
            | true =>
              have hm1' := (odd m).1 hm1
              simp only [cond_true]
              rw [ihl (by omega)]
              by_cases e : m = n
              · subst e; simp
              · rw [if_neg e, if_neg (by omega)]
            | false =>
              have hm1' : ¬ m % 2 = 1 := fun e => by rw [(odd m).2 e] at hm1; cases hm1
              simp only [cond_false]
              rw [if_neg (by omega)]
        | false =>
          have h1' : ¬ n % 2 = 1 := fun e => by rw [(odd n).2 e] at h1; cases h1
          simp only [cond_false, Tr.get]
          cases hm : Nat.beq m 0 with
          | true => have := (hn0 m).1 hm; subst this; simp only [cond_true]; rw [if_neg (by omega)]
          | false =>
            have hm0 : m ≠ 0 := fun e => by rw [(hn0 m).2 e] at hm; cases hm
            simp only [cond_false]
            cases hm1 : Nat.beq (m % 2) 1 with
            | true =>
              have hm1' := (odd m).1 hm1
              simp only [cond_true]
              rw [if_neg (by omega)]
            | false =>
              have hm1' : ¬ m % 2 = 1 := fun e => by rw [(odd m).2 e] at hm1; cases hm1
              simp only [cond_false]
              rw [ihr (by omega)]
              by_cases e : m = n
              · subst e; simp
              · rw [if_neg e, if_neg (by omega)]
    cases t with
    | nil =>
      have := key .nil none .nil
      have hg : (Tr.node (.nil : Tr α) none .nil).get m = (Tr.nil : Tr α).get m := by
        simp only [Tr.get]
        cases Nat.beq m 0 <;> cases Nat.beq (m % 2) 1 <;> rfl
      rw [hg] at this
      exact this
    | node l v r => exact key l v r
structure St where
  tm : Tr Value
  hp : Tr AObj
  nx : Nat
def tmv (t : Tr Value) (i : Nat) : Value := match t.get i with | some v => v | none => undef
def St.T (s : St) : Nat → Value := tmv s.tm
def hpOf (hp : Tr AObj) (nx : Nat) : Hp := ⟨hp.get, nx⟩
/-- the heap behind an operation -/
def appT (e : HE) (hp : Tr AObj) (nx : Nat) : Tr AObj × Nat :=
  match e with
  | .keep => (hp, nx)
  | .put i o => (hp.set 24 i o, nx)
  | .new o => (hp.set 24 nx o, nx + 1)
  | .take i o => ((hp.set 24 i .dead).set 24 nx o, nx + 1)
def roomT (e : HE) (nx : Nat) : Bool :=
  match e with
  | .keep => true
  | .put i _ => Nat.blt i 16000000
  | .new _ => Nat.blt nx 16000000
  | .take i _ => Nat.blt nx 16000000 && Nat.blt i 16000000
theorem appT_eq {e : HE} {hp : Tr AObj} {nx : Nat} (h : roomT e nx = true) : hpOf (appT e hp nx).1 (appT e hp nx).2 = e.app nx (hpOf hp nx) := by
  have small : ∀ i, Nat.blt i 16000000 = true → i + 1 < 2 ^ 24 := fun i hi => by have := blt_iff.1 hi; omega
  cases e with
  | keep => rfl
  | put i o =>
    have := small _ h
    simp only [hpOf, appT, HE.app, Hp.set]
    congr 1
    funext j
    exact Tr.get_set 24 hp i j o this
  | new o =>
    have := small _ h
    simp only [hpOf, appT, HE.app, Hp.new]
    congr 1
    · funext j
      exact Tr.get_set 24 hp nx j o this
    · omega
  | take i o =>
    simp only [roomT, Bool.and_eq_true] at h
    have h1 := small _ h.1
    have h2 := small _ h.2
    simp only [hpOf, appT, HE.app, Hp.new, Hp.set]
    congr 1
    · funext j
      rw [Tr.get_set 24 _ nx j o h1, Tr.get_set 24 hp i j .dead h2]
    · omega
def putS (t : Tr Value) (d : Option Nat) (v : Value) : Tr Value :=
  match d with
  | some d => t.set 12 d v
  | none => t
theorem putS_eq {t : Tr Value} {d : Option Nat} {v : Value} (h : ∀ i, d = some i → i < 4000) : tmv (putS t d v) = putT (tmv t) d v := by
  cases d with
  | none => rfl
  | some d =>
    have := h d rfl
    funext i
    simp only [tmv, putS, putT, Tr.get_set 12 t d i v (by omega)]
    by_cases e : i = d
    · rw [if_pos e, if_pos e]
    · rw [if_neg e, if_neg e]
def argS : List Value → Nat → Tr Value → Tr Value
  | [], _, t => t
  | v :: l, n, t => argS l (n + 1) (t.set 12 n v)
theorem argS_eq : ∀ (l : List Value) (n : Nat) (t : Tr Value) (i : Nat), n + l.length < 4000 → tmv (argS l n t) i = if n ≤ i ∧ i < n + l.length then argT l (i - n) else tmv t i
  | [], n, t, i, _ => by rw [if_neg (by simp)]; rfl
  | v :: l, n, t, i, h => by
    simp only [List.length_cons] at h
    rw [argS, argS_eq l (n + 1) _ i (by omega)]
    simp only [List.length_cons]
    by_cases h1 : n + 1 ≤ i ∧ i < n + 1 + l.length
    · rw [if_pos h1, if_pos (by omega), show i - n = (i - (n + 1)) + 1 by omega]
      rfl
    · rw [if_neg h1]
      simp only [tmv, Tr.get_set 12 t n i v (by omega)]
      by_cases h2 : i = n
      · subst h2
        rw [if_pos rfl, if_pos (by omega), Nat.sub_self]
        rfl
      · rw [if_neg h2, if_neg (by omega)]
theorem argS_T {l : List Value} (h : l.length < 4000) : tmv (argS l 0 .nil) = argT l := by
  funext i
  rw [argS_eq l 0 .nil i (by omega)]
  by_cases hi : 0 ≤ i ∧ i < 0 + l.length
  · rw [if_pos hi]; rfl
  · rw [if_neg hi, argT_eq]
    have : l[i]? = none := by simp; omega
    rw [this]
    rfl
end Go.Ab
