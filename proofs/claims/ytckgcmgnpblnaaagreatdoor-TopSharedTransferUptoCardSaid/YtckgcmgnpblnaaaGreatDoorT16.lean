/- A part of the proof of a law over a given program: Fst, T3, T4, W0. -/
import Derived.Test.YtckgcmgnpblnaaaGreatDoorT11
import Derived.Test.YtckgcmgnpblnaaaGreatDoorT12
import Derived.Test.YtckgcmgnpblnaaaGreatDoorT15
set_option linter.unusedVariables false
set_option linter.unusedSimpArgs false
namespace Go.Ab
open Go.Proofs
set_option maxRecDepth 10000
def firstL (s : Sr) : Nat → Nat → Option (List Int)
  | 0, _ => none
  | n + 1, k => (match visL s k [1] with | l :: _ => some l | [] => firstL s n (k + 1))
/-- the smallest of the shortest chains -/
def first (s : Sr) : Option (List Int) := bif has s.spoilt 1 then none else firstL s 8 0
def FirstPost (s : Sr) (h : Hp) (e : AEnd) (h' : Hp) : Prop := ∃ v, e = .ret v ∧ (match first s with | none => v = .slice none 0 0 ∧ h' = h | some l => MadeInts h l v h')
theorem rec66 {i : Nat} {x v : Value} {h : Hp} (hi : i < h.next) (hg : h.get i = some (.cells [x] false 22)) (hone : one v = true) (hcl : cellsOf v = [v]) :
    ARec Tryz.prog 66 [.pointer (some ⟨i, 0, none⟩)] (some (.iface 22 v)) (fun h' => h' = ov h [(i, .cells [v] false 22)] [] 0) h := by
  refine ARec.body (fn := Tryz.f66) (by kernel_rfl) rfl rfl rfl rfl rfl rfl rfl rfl rfl (show (2 : Nat) < 7 by decide) (show (1 : Nat) < 7 by decide) rfl ?_
  refine AWp.weaken (T' := tl ((1, .iface 22 v) :: (2, .iface 22 v) :: argsL [.pointer (some ⟨i, 0, none⟩)] 0)) ?_ ?_
  · exact tl_put (tl_put (argT_tl _) 2 _) 1 _
  · refine AWp.walk (ng := 4) (by kernel_rfl) fun En => ?_
    simp only [argsL]
    ((repeat refine CWp.seq ?_); refine CWp.region ?_)
    repeat (first | refine RL.w good ?_ | refine RL.k ?_)
    refine RL.nil ?_
    (try simp (disch := omega) only [qA])
    ((repeat refine CWp.seq ?_); refine CWp.cnd good ?_ ?_)
    · intro _
      ((repeat refine CWp.seq ?_); refine CWp.region ?_)
      repeat (first | refine RL.w good ?_ | refine RL.k ?_)
      refine RL.nil ?_
      exact ⟨.inl rfl, rfl⟩
    · intro hc; cases hc
theorem rec66n {i : Nat} {h : Hp} :
    ARec Tryz.prog 66 [.pointer (some ⟨i, 0, none⟩)] none (fun h' => h' = h) h := by
  refine ARec.body (fn := Tryz.f66) (by kernel_rfl) rfl rfl rfl rfl rfl rfl rfl rfl rfl (show (2 : Nat) < 7 by decide) (show (1 : Nat) < 7 by decide) rfl ?_
  refine AWp.weaken (T' := tl ((1, .nilIface) :: (2, .nilIface) :: argsL [.pointer (some ⟨i, 0, none⟩)] 0)) ?_ ?_
  · exact tl_put (tl_put (argT_tl _) 2 _) 1 _
  · refine AWp.walk (ng := 4) (by kernel_rfl) fun En => ?_
    simp only [argsL]
    ((repeat refine CWp.seq ?_); refine CWp.region ?_)
    repeat (first | refine RL.w good ?_ | refine RL.k ?_)
    refine RL.nil ?_
    (try simp (disch := omega) only [qA])
    ((repeat refine CWp.seq ?_); refine CWp.cnd good ?_ ?_)
    · intro hc; cases hc
    · intro _
      (refine CWp.skip ?_; (try simp (disch := omega) only [qA]))
      exact ⟨.inl (by trivial), ov_self En.lt⟩
/-- the code behind the defer -/
def restOf (fn : Func) : Code :=
  match fn.body with
  | some (.seq _ (.seq _ (.seq _ c))) => c
  | _ => .skip
theorem firstL_spec (s : Sr) : ∀ (n k : Nat), k ≤ n → firstL s 8 0 = firstL s (8 - k) k ∨ True := fun _ _ _ => .inr trivial
theorem first_rest (s : Sr) (hso : SrOK s) (h1 : Hp) (i0 i1 : Nat) (spv : Value) (row : Bool) (hr : s.row = row) (hsp : IsInts h1 spv s.spoilt) (hi0 : i0 < h1.next) (hi1 : i1 < h1.next) (hg0 : h1.get i0 = some (.cells [.int .i64 s.n, spv, .bool row] false 75)) (hg1 : h1.get i1 = some (.cells [.slice none 0 0] false 22))
    (R : AEnd → Hp → Prop) (hnone : firstL s 8 0 = none → R (.ret (.slice none 0 0)) (ov h1 [(i1, .cells [.slice none 0 0] false 22)] [] 0))
    (hsome : ∀ l v h', firstL s 8 0 = some l → MadeInts (ov h1 [] [(0, .cells [.int .i64 1] false 3)] 1) l v h' → R (.ret v) (ov h' [(i1, .cells [v] false 22)] [] 0)) :
    AWp Tryz.prog 16 (restOf Tryz.f45) (fun e T h => bodyX Tryz.prog (tiOf Tryz.prog) Tryz.f45 R e T h [(66, [.pointer (some ⟨i1, 0, none⟩)])]) (tl [(1, .pointer (some ⟨i0, 0, none⟩)), (2, .pointer (some ⟨i1, 0, none⟩))]) h1 := by
  refine AWp.walk (ng := 4) (by kernel_rfl) fun En => ?_
  have sv := hsp.sv
  have sp0 : SV h1 (.pointer (some ⟨i0, 0, none⟩)) := ⟨_, rfl, ⟨rfl, by rw [hg0]; simp⟩, rfl, rfl⟩
  have sp1 : SV h1 (.pointer (some ⟨i1, 0, none⟩)) := ⟨_, rfl, ⟨rfl, by rw [hg1]; simp⟩, rfl, rfl⟩
  have hl0 : ∀ L k, ldN (ov h1 [] L k).get ⟨i0, 0, none⟩ 3 = some [.int .i64 s.n, spv, .bool row] := fun L k => by
    unfold ldN
    simp only [ov_low0 hi0, hg0]
    rfl
  replace hnone := Hid.mk hnone
  replace hsome := Hid.mk hsome
  ((repeat refine CWp.seq ?_); refine CWp.region ?_)
  repeat (first | refine RL.w good ?_ | refine RL.k ?_)
  refine RL.nil ?_
  (try simp (disch := omega) only [qA])
  ((repeat refine CWp.seq ?_); refine CWp.block ?_)
  refine CWp.loop (fun (k : Nat) => (tl [(1, .pointer (some ⟨i0, 0, none⟩)), (2, .pointer (some ⟨i1, 0, none⟩)), (8, .int .i64 k)], ov h1 [] [] 0)) (fun k => 8 - k)
    (fun k => k ≤ 8 ∧ firstL s 8 0 = firstL s (8 - k) k) 0 ⟨by omega, rfl⟩ ?_ ?_
  · ((try dsimp only); apply fades_to En []; (· (repeat (refine And.intro ?_ ?_; (· ((try simp only [push_cast, reduceIte, Nat.reduceEqDiff, *]) <;> first | exact rfl | exact SV.fv En (by assumption) | exact ⟨_, rfl, Rn_loc ⟨_, rfl⟩ rfl, rfl, rfl⟩ | exact ⟨_, _, rfl, rfl, rfl⟩ | exact congrArg (Value.int _) (by omega))))) <;> exact trivial); (· exact trivial); (· exact trivial); (· (repeat (refine And.intro ⟨by decide, _, _, rfl, rfl, ?_⟩ ?_; (· (first | exact ⟨_, rfl, flatsFV rfl⟩ | exact ⟨_, rfl, intsFVL _⟩ | (refine ⟨_, rfl, ?_⟩; (repeat (refine ⟨_, _, rfl, ?_, ?_⟩; (· (first | exact rfl | exact SV.fv En (by assumption) | exact ⟨_, rfl, Rn_loc ⟨_, rfl⟩ rfl, rfl, rfl⟩ | exact ⟨_, _, rfl, rfl, rfl⟩ | exact congrArg (Value.int _) (by omega))))); exact rfl))))) <;> exact trivial); (· exact rfl))
  · rintro k ⟨hk1, hk2⟩
    dsimp only at hk1 hk2 ⊢
    ((repeat refine CWp.seq ?_); refine CWp.region ?_)
    repeat (first | refine RL.w good ?_ | refine RL.k ?_)
    refine RL.nil ?_
    (try simp (disch := omega) only [qA])
    ((repeat refine CWp.seq ?_); refine CWp.cnd good ?_ ?_)
    · (intro hc; (try simp only [decide_eq_true_eq, decide_eq_false_iff_not, Bool.not_eq_true, Bool.not_eq_false, Int.not_lt, Int.not_le, bne_iff_ne, beq_iff_eq, ne_eq, Bool.not_eq_eq_eq_not, Bool.not_true, Bool.not_false] at hc))
      have e3 : firstL s (8 - k) k = (match visL s k [1] with | l :: _ => some l | [] => firstL s (8 - (k + 1)) (k + 1)) := by
        rw [show 8 - k = (8 - (k + 1)) + 1 by omega]; rfl
      rw [e3] at hk2
      replace hk2 := Hid.mk hk2
      clear e3
      (refine CWp.skip ?_; (try simp (disch := omega) only [qA]))
      ((repeat refine CWp.seq ?_); refine CWp.block ?_)
      ((repeat refine CWp.seq ?_); refine CWp.region ?_)
      repeat (first | refine RL.w good ?_ | refine RL.k ?_)
      refine RL.nil ?_
      (try simp (disch := omega) only [qA])
      ((repeat refine CWp.seq ?_); refine CWp.region ?_)
      repeat (first | refine RL.w good ?_ | refine RL.k ?_)
      (refine' RL.c good ?_ ?_ ?_; rotate_left)
      · exact visit_first s hso k _ spv _ [1] row hr (by omega) (by simp; omega) ⟨by simp, by simp, fun j => by
          cases j with
          | zero => simp
          | succ j => simp⟩ (hsp.ov _ _) (IsInts.atLoc (by decide) rfl rfl (.inr ⟨by unfold U; omega, by simp⟩))
      · intro v' h' q
        have hk2 := hk2.out
        cases hvv : visL s k [1] with
        | cons l0 ls => rw [hvv] at q; obtain ⟨_, e, _⟩ := q; cases e
        | nil =>
          rw [hvv] at q hk2
          obtain ⟨e, rfl⟩ := q
          cases e
          simp only at hk2
          simp only [push_cast]
          refine RL.nil ?_
          (try simp (disch := omega) only [qA])
          ((repeat refine CWp.seq ?_); refine CWp.region ?_)
          repeat (first | refine RL.w good ?_ | refine RL.k ?_)
          refine RL.nil ?_
          (try simp (disch := omega) only [qA])
          refine ⟨k + 1, ⟨by omega, hk2⟩, by omega, ?_⟩
          ((try dsimp only); apply fades_to En []; (· (repeat (refine And.intro ?_ ?_; (· ((try simp only [push_cast, reduceIte, Nat.reduceEqDiff, *]) <;> first | exact rfl | exact SV.fv En (by assumption) | exact ⟨_, rfl, Rn_loc ⟨_, rfl⟩ rfl, rfl, rfl⟩ | exact ⟨_, _, rfl, rfl, rfl⟩ | exact congrArg (Value.int _) (by omega))))) <;> exact trivial); (· exact trivial); (· exact trivial); (· (repeat (refine And.intro ⟨by decide, _, _, rfl, rfl, ?_⟩ ?_; (· (first | exact ⟨_, rfl, flatsFV rfl⟩ | exact ⟨_, rfl, intsFVL _⟩ | (refine ⟨_, rfl, ?_⟩; (repeat (refine ⟨_, _, rfl, ?_, ?_⟩; (· (first | exact rfl | exact SV.fv En (by assumption) | exact ⟨_, rfl, Rn_loc ⟨_, rfl⟩ rfl, rfl, rfl⟩ | exact ⟨_, _, rfl, rfl, rfl⟩ | exact congrArg (Value.int _) (by omega))))); exact rfl))))) <;> exact trivial); (· exact rfl))
      · intro v' h' q
        have hk2 := hk2.out
        (try simp (disch := omega) only [qA])
        cases hvv : visL s k [1] with
        | nil => rw [hvv] at q; obtain ⟨e, _⟩ := q; cases e
        | cons l0 ls =>
          rw [hvv] at q hk2
          obtain ⟨v2, e, hm⟩ := q
          cases e
          simp only at hk2
          obtain ⟨hlow, hnx⟩ := hm.low (i := i1) (by rw [ov_next]; unfold loc; omega)
          rw [ov_low0 hi1, hg1] at hlow
          refine ⟨en (by kernel_rfl), (rec66 hnx hlow hm.one.1 hm.one.2).mono fun h2 e => ?_⟩
          subst e
          refine ⟨[v2], ?_, hsome.out l0 v2 h' hk2 hm⟩
          have hl1 : ldN (ov h' [(i1, .cells [v2] false 22)] [] 0).get ⟨i1, 0, none⟩ 1 = some [v2] := by
            unfold ldN
            simp only [ov_low hnx]
            simp only [lk, if_true]
            rfl
          show resL (tiOf Tryz.prog) _ _ [.cell 2 22] = _
          simp (disch := omega) only [push_cast, reduceIte, Nat.reduceEqDiff, beq_self_eq_true, bne_self_eq_false, Int.reduceBEq, Int.reduceBNe, Int.reduceLT, Int.reduceLE, Nat.reduceAdd, Nat.reduceMul, Nat.reduceSub, Int.reduceToNat, Nat.reducePow, Int.reducePow, *] <;> exact rfl
    · (intro hc; (try simp only [decide_eq_true_eq, decide_eq_false_iff_not, Bool.not_eq_true, Bool.not_eq_false, Int.not_lt, Int.not_le, bne_iff_ne, beq_iff_eq, ne_eq, Bool.not_eq_eq_eq_not, Bool.not_true, Bool.not_false] at hc))
      have hk : k = 8 := by omega
      subst hk
      have hno : firstL s 8 0 = none := hk2
      (refine CWp.exit ?_; (try simp (disch := omega) only [qA]))
      ((repeat refine CWp.seq ?_); refine CWp.region ?_)
      repeat (first | refine RL.w good ?_ | refine RL.k ?_)
      refine RL.nil ?_
      (try simp (disch := omega) only [qA])
      refine CWp.ret ?_
      refine ⟨en (by kernel_rfl), rec66n.mono fun h2 e => ?_⟩
      subst e
      refine ⟨[.slice none 0 0], ?_, hnone.out hno⟩
      have hl1 : ldN (ov h1 [(i1, .cells [.slice none 0 0] false 22)] [] 0).get ⟨i1, 0, none⟩ 1 = some [.slice none 0 0] := by
        unfold ldN
        simp only [ov_low hi1]
        simp only [lk, if_true]
        rfl
      show resL (tiOf Tryz.prog) _ _ [.cell 2 22] = _
      simp (disch := omega) only [push_cast, reduceIte, Nat.reduceEqDiff, beq_self_eq_true, bne_self_eq_false, Int.reduceBEq, Int.reduceBNe, Int.reduceLT, Int.reduceLE, Nat.reduceAdd, Nat.reduceMul, Nat.reduceSub, Int.reduceToNat, Nat.reducePow, Int.reducePow, *] <;> exact rfl
theorem tl_sub {T : Nat → Value} {L : List (Nat × Value)} (h : ∀ p ∈ L, T p.1 = p.2) : ∀ t, tl L t = T t ∨ tl L t = junk := fun t => by
  unfold tl
  cases e : lk L t with
  | none => exact .inr rfl
  | some v => exact .inl (h _ (lk_mem e)).symm
theorem f45s (s : Sr) (hso : SrOK s) (h : Hp) (spv : Value) (row : Bool) (hr : s.row = row) (hsp : IsInts h spv s.spoilt) : ACalls Tryz.prog 45 [.agg #[.int .i64 s.n, spv, .bool row]] (FirstPost s h) h := by
  refine ACalls.entry fun En hs => ACalls.fade (ACalls.deferred (E := tiOf Tryz.prog) (fn := Tryz.f45) (fun _ _ h => h) (by kernel_rfl) rfl ?_)
  refine AWpX.weaken (argT_tl _) ?_
  simp only [argsL]
  refine AWpX.seq (AWpX.of (Q' := fun e T h' => e = .normal ∧ T = tl [(2, .pointer (some ⟨loc h 1, 0, none⟩)), (1, .pointer (some ⟨loc h 0, 0, none⟩)), (0, .agg #[.int .i64 s.n, spv, .bool row])] ∧ h' = ov h [] [(1, .cells [.slice none 0 0] false 22), (0, .cells [.int .i64 s.n, spv, .bool row] false 75)] 2) ?_ ?_)
  · refine AWp.walk (ng := 4) (by kernel_rfl) fun _ => ?_
    ((repeat refine CWp.seq ?_); refine CWp.region ?_)
    repeat (first | refine RL.w good ?_ | refine RL.k ?_)
    refine RL.nil ?_
    exact ⟨rfl, rfl, rfl⟩
  · rintro e T h' ⟨rfl, rfl, rfl⟩
    dsimp only
    generalize hh1 : ov h [] [(1, .cells [.slice none 0 0] false 22), (0, .cells [.int .i64 s.n, spv, .bool row] false 75)] 2 = h1
    have hi0 : loc h 0 < h1.next := by subst hh1; rw [ov_next, loc_lt]; omega
    have hi1 : loc h 1 < h1.next := by subst hh1; rw [ov_next, loc_lt]; omega
    have hg0 : h1.get (loc h 0) = some (.cells [.int .i64 s.n, spv, .bool row] false 75) := by subst hh1; rw [ov_loc]; rfl
    have hg1 : h1.get (loc h 1) = some (.cells [.slice none 0 0] false 22) := by subst hh1; rw [ov_loc]; rfl
    have hsp1 : IsInts h1 spv s.spoilt := by subst hh1; exact hsp.ov _ _
    have R1 : has s.spoilt 1 = true → EndB Tryz.prog h (FirstPost s h) (.ret (.slice none 0 0)) (ov h1 [(loc h 1, .cells [.slice none 0 0] false 22)] [] 0) := fun hh => by
      subst hh1
      rw [ov_upd rfl (by decide)]
      exact EndB.plain En rfl ⟨_, rfl, by simp only [first, hh, cond_true]; exact ⟨by trivial, by trivial⟩⟩
    have R2 : has s.spoilt 1 = false → firstL s 8 0 = none → EndB Tryz.prog h (FirstPost s h) (.ret (.slice none 0 0)) (ov h1 [(loc h 1, .cells [.slice none 0 0] false 22)] [] 0) := fun hh hn => by
      subst hh1
      rw [ov_upd rfl (by decide)]
      exact EndB.plain En rfl ⟨_, rfl, by simp only [first, hh, hn, cond_false]; exact ⟨by trivial, by trivial⟩⟩
    have R3 : ∀ l v h', has s.spoilt 1 = false → firstL s 8 0 = some l → MadeInts (ov h1 [] [(0, .cells [.int .i64 1] false 3)] 1) l v h' → EndB Tryz.prog h (FirstPost s h) (.ret v) (ov h' [(loc h 1, .cells [v] false 22)] [] 0) := fun l v h' hh hn hm => by
      subst hh1
      have hp : ∀ v2 h2, MadeInts h l v2 h2 → FirstPost s h (.ret v2) h2 := fun v2 h2 m => ⟨_, rfl, by simp only [first, hh, hn, cond_false]; exact m⟩
      rw [ov_ov rfl] at hm
      rcases hm with ⟨rfl, rfl, rfl⟩ | ⟨c, rfl, rfl, hc⟩
      · rw [ov_upd rfl (by decide)]
        exact EndB.plain En rfl (hp _ _ (.inl ⟨rfl, rfl, rfl⟩))
      · rw [ov_ov rfl, ov_upd rfl (by decide), loc_ov]
        refine ⟨tau h [(0, 3)], ov h [] [(0, .cells (ints l) false 3)] 1, .slice (some ⟨loc h 0, 0, none⟩) l.length c, fades_ov En [(0, 3)] trivial trivial ?_ rfl, ?_, hp _ _ (.inr ⟨c, rfl, rfl, hc⟩)⟩
        · (repeat (refine And.intro ⟨by decide, _, _, rfl, rfl, ?_⟩ ?_; (· (first | exact ⟨_, rfl, flatsFV rfl⟩ | exact ⟨_, rfl, intsFVL _⟩ | (refine ⟨_, rfl, ?_⟩; (repeat (refine ⟨_, _, rfl, ?_, ?_⟩; (· (first | exact rfl | exact SV.fv En (by assumption) | exact ⟨_, rfl, Rn_loc ⟨_, rfl⟩ rfl, rfl, rfl⟩ | exact ⟨_, _, rfl, rfl, rfl⟩ | exact congrArg (Value.int _) (by omega))))); exact rfl))))) <;> exact trivial
        · exact ⟨_, rfl, Rn_loc ⟨_, rfl⟩ rfl, rfl, rfl⟩
    replace R1 := Hid.mk R1
    replace R2 := Hid.mk R2
    replace R3 := Hid.mk R3
    clear hs
    generalize loc h 0 = i0 at *
    generalize loc h 1 = i1 at *
    have hl0 : ∀ L k, ldN (ov h1 [] L k).get ⟨i0, 1, none⟩ 1 = some [spv] := fun L k => by
      unfold ldN
      simp only [ov_low0 hi0, hg0]
      rfl
    refine AWpX.seq (AWpX.of (Q' := fun e T h' => (e = .normal ∧ has s.spoilt 1 = false ∧ T 1 = .pointer (some ⟨i0, 0, none⟩) ∧ T 2 = .pointer (some ⟨i1, 0, none⟩) ∧ h' = h1) ∨
      (e = .ret ∧ has s.spoilt 1 = true ∧ T 2 = .pointer (some ⟨i1, 0, none⟩) ∧ h' = ov h1 [(i1, .cells [.slice none 0 0] false 22)] [] 0)) ?_ ?_)
    · refine AWp.walk (ng := 4) (by kernel_rfl) fun En1 => ?_
      ((repeat refine CWp.seq ?_); refine CWp.region ?_)
      repeat (first | refine RL.w good ?_ | refine RL.k ?_)
      (refine' RL.c good ?_ ?_ ?_; rotate_left)
      · exact f65s _ _ _ _ (hsp1.ov _ _) (by have := hso.sp; omega)
      · rintro v' h' ⟨e, rfl⟩
        cases e
        simp only [push_cast]
        refine RL.nil ?_
        (try simp (disch := omega) only [qA])
        cases hh : has s.spoilt 1
        · ((repeat refine CWp.seq ?_); refine CWp.cnd good ?_ ?_)
          · intro hc; cases hc
          · intro _
            (refine CWp.skip ?_; (try simp (disch := omega) only [qA]))
            exact .inl ⟨by trivial, by trivial, by trivial, by trivial, ov_self En1.lt⟩
        · ((repeat refine CWp.seq ?_); refine CWp.cnd good ?_ ?_)
          · intro _
            ((repeat refine CWp.seq ?_); refine CWp.region ?_)
            repeat (first | refine RL.w good ?_ | refine RL.k ?_)
            refine RL.nil ?_
            (try simp (disch := omega) only [qA])
            refine CWp.ret ?_
            exact .inr ⟨by trivial, by trivial, by trivial, by trivial⟩
          · intro hc; cases hc
      · rintro v h' ⟨e, _⟩; cases e
    · rintro e T h' (⟨rfl, hno, h1T, h2T, rfl⟩ | ⟨rfl, hyes, h2T, rfl⟩)
      · dsimp only
        refine AWpX.seq (AWpX.defer (ng := 4) good.ng rfl rfl rfl (show (7 : Nat) < 16 by decide) rfl rfl rfl rfl rfl rfl ?_)
        dsimp only
        have hev : evL T [.tmp 2] = [.pointer (some ⟨i1, 0, none⟩)] := by simp only [evL, evo, h2T]
        have := first_rest s hso h' i0 i1 spv row hr hsp1 hi0 hi1 hg0 hg1 (EndB Tryz.prog h (FirstPost s h)) (fun hn => R2.out hno hn) (fun l v h2 hn hm => R3.out l v h2 hno hn hm)
        refine AWpX.weaken (T' := tl [(1, .pointer (some ⟨i0, 0, none⟩)), (2, .pointer (some ⟨i1, 0, none⟩))]) ?_ (AWpX.of this ?_)
        · refine tl_sub fun p hp => ?_
          simp only [List.mem_cons, List.not_mem_nil, or_false] at hp
          rcases hp with rfl | rfl
          · exact h1T
          · exact h2T
        · intro e T2 h2 q
          rw [← hev] at q
          exact q
      · refine ⟨[.slice none 0 0], ?_, R1.out hyes⟩
        have hl1 : ldN (ov h1 [(i1, .cells [.slice none 0 0] false 22)] [] 0).get ⟨i1, 0, none⟩ 1 = some [.slice none 0 0] := by
          unfold ldN
          simp only [ov_low hi1]
          simp only [lk, if_true]
          rfl
        show resL (tiOf Tryz.prog) _ _ [.cell 2 22] = _
        simp (disch := omega) only [push_cast, reduceIte, Nat.reduceEqDiff, beq_self_eq_true, bne_self_eq_false, Int.reduceBEq, Int.reduceBNe, Int.reduceLT, Int.reduceLE, Nat.reduceAdd, Nat.reduceMul, Nat.reduceSub, Int.reduceToNat, Nat.reducePow, Int.reducePow, *] <;> exact rfl
end Go.Ab
namespace Go.Ab
open Go.Proofs
set_option maxRecDepth 10000
/-- how a call ends that answers ints in new memory, and an error's number -/
def IntsErr (h : Hp) (e : AEnd) (h' : Hp) : Prop := ∃ l v n, e = .ret (.tuple #[v, .int .i64 n]) ∧ MadeInts h l v h' ∧ l.length ≤ 1000
def chainE (n : Int) (h : Hp) (e : AEnd) (h' : Hp) : Prop :=
  bif btw 1 n 46 then ∃ v, e = .ret (.tuple #[v, .int .i64 0]) ∧ (match first ⟨n, [], false⟩ with | none => v = .slice none 0 0 ∧ h' = h | some l => MadeInts h l v h')
  else e = .ret (.tuple #[.slice none 0 0, .int .i64 3]) ∧ h' = h
theorem nilInts (h : Hp) : IsInts h (.slice none 0 0) [] := IsSl.ints ⟨rfl, .inl ⟨rfl, rfl⟩⟩
theorem btw_spec {a b c : Int} (h : btw a b c = true) : a ≤ b ∧ b ≤ c := by simpa [btw] using h
theorem f16s (n : Int) (h : Hp) : ACalls Tryz.prog 16 [.int .i64 n] (chainE n h) h := by
  (refine ACalls.bodyB (fn := Tryz.f16) (ng := 4) (N := 10) (res := [.tmp 2, .tmp 3]) (by kernel_rfl) rfl rfl rfl (by kernel_rfl) (fun En hs => ?_); simp only [argsL, Nat.reduceAdd])
  clear hs
  ((repeat refine CWp.seq ?_); refine CWp.region ?_)
  repeat (first | refine RL.w good ?_ | refine RL.k ?_)
  refine RL.nil ?_
  ((repeat refine CWp.seq ?_); refine CWp.region ?_)
  repeat (first | refine RL.w good ?_ | refine RL.k ?_)
  (refine' RL.c good ?_ ?_ ?_; rotate_left)
  · exact f41s _ _ _ _
  · rintro v' h' ⟨e, rfl⟩
    cases e
    simp only [push_cast]
    cases hb : btw 1 n 46
    · repeat (first | refine RL.w good ?_ | refine RL.k ?_)
      refine RL.nil ?_
      (try simp (disch := omega) only [qA])
      ((repeat refine CWp.seq ?_); refine CWp.cnd good ?_ ?_)
      · intro _
        ((repeat refine CWp.seq ?_); refine CWp.region ?_)
        repeat (first | refine RL.w good ?_ | refine RL.k ?_)
        refine RL.nil ?_
        (refine CWp.ret ?_; (try simp (disch := omega) only [qA]); refine rtB ?_; (try simp only [oneV]))
        exact EndB.plain En rfl (by unfold chainE; rw [hb]; exact ⟨rfl, rfl⟩)
      · intro hc; cases hc
    · repeat (first | refine RL.w good ?_ | refine RL.k ?_)
      refine RL.nil ?_
      (try simp (disch := omega) only [qA])
      ((repeat refine CWp.seq ?_); refine CWp.cnd good ?_ ?_)
      · intro hc; cases hc
      · intro _
        (refine CWp.skip ?_; (try simp (disch := omega) only [qA]))
        ((repeat refine CWp.seq ?_); refine CWp.region ?_)
        repeat (first | refine RL.w good ?_ | refine RL.k ?_)
        (refine' RL.c good ?_ ?_ ?_; rotate_left)
        · exact f45s ⟨n, [], false⟩ ⟨btw_spec hb, by simp⟩ _ _ _ rfl (nilInts _)
        · rintro v' h' ⟨v2, e, hm⟩
          cases e
          simp only [push_cast]
          repeat (first | refine RL.w good ?_ | refine RL.k ?_)
          refine RL.nil ?_
          (try simp (disch := omega) only [qA])
          (refine CWp.ret ?_; (try simp (disch := omega) only [qA]); refine rtB ?_; (try simp only [oneV]))
          have hc : ∀ v h', (match first ⟨n, [], false⟩ with | none => v = .slice none 0 0 ∧ h' = h | some l => MadeInts h l v h') → chainE n h (.ret (.tuple #[v, .int .i64 0])) h' := fun v h' q => by unfold chainE; rw [hb]; exact ⟨_, rfl, q⟩
          cases hf : first ⟨n, [], false⟩ with
          | none =>
            rw [hf] at hm hc
            obtain ⟨rfl, rfl⟩ := hm
            exact EndB.plain En rfl (hc _ _ ⟨rfl, rfl⟩)
          | some l =>
            rw [hf] at hm hc
            exact hm.endWith En rfl rfl hc
        · rintro v h' ⟨v2, e, _⟩; cases e
  · rintro v h' ⟨e, _⟩; cases e
def distF (n : Int) : Int × Int :=
  bif btw 1 n 46 then (((match first ⟨n, [], false⟩ with | none => (0 : Nat) | some l => l.length) : Int) - 1, 0) else (0, 3)
theorem f47s (n : Int) (h : Hp) (hlen : ∀ l, first ⟨n, [], false⟩ = some l → l.length ≤ 1000) : ACalls Tryz.prog 47 [.int .i64 n] (fun e h' => e = .ret (.tuple #[.int .i64 (distF n).1, .int .i64 (distF n).2]) ∧ h' = h) h := by
  replace hlen := Hid.mk hlen
  (refine ACalls.bodyB (fn := Tryz.f47) (ng := 4) (N := 17) (res := [.tmp 2, .tmp 3]) (by kernel_rfl) rfl rfl rfl (by kernel_rfl) (fun En hs => ?_); simp only [argsL, Nat.reduceAdd])
  clear hs
  ((repeat refine CWp.seq ?_); refine CWp.region ?_)
  repeat (first | refine RL.w good ?_ | refine RL.k ?_)
  refine RL.nil ?_
  ((repeat refine CWp.seq ?_); refine CWp.region ?_)
  repeat (first | refine RL.w good ?_ | refine RL.k ?_)
  (refine' RL.c good ?_ ?_ ?_; rotate_left)
  · exact f16s _ _
  · intro v' h' q
    unfold chainE at q
    cases hb : btw 1 n 46
    · rw [hb] at q
      obtain ⟨e, rfl⟩ := q
      cases e
      have hd : distF n = (0, 3) := by unfold distF; rw [hb]; rfl
      simp only [push_cast]
      repeat (first | refine RL.w good ?_ | refine RL.k ?_)
      refine RL.nil ?_
      (try simp (disch := omega) only [qA])
      ((repeat refine CWp.seq ?_); refine CWp.region ?_)
      repeat (first | refine RL.w good ?_ | refine RL.k ?_)
      refine RL.nil ?_
      (try simp (disch := omega) only [qA])
      ((repeat refine CWp.seq ?_); refine CWp.cnd good ?_ ?_)
      · intro _
        ((repeat refine CWp.seq ?_); refine CWp.region ?_)
        repeat (first | refine RL.w good ?_ | refine RL.k ?_)
        refine RL.nil ?_
        (try simp (disch := omega) only [qA])
        (refine CWp.ret ?_; (try simp (disch := omega) only [qA]); refine rtB ?_; (try simp only [oneV]))
        exact EndB.plain En rfl ⟨by rw [hd], rfl⟩
      · intro hc; cases hc
    · rw [hb] at q
      obtain ⟨v, e, hm⟩ := q
      cases e
      cases hf : first ⟨n, [], false⟩ with
      | none =>
        rw [hf] at hm
        obtain ⟨rfl, rfl⟩ := hm
        have hd : distF n = (-1, 0) := by unfold distF; rw [hb, hf]; rfl
        simp only [push_cast]
        repeat (first | refine RL.w good ?_ | refine RL.k ?_)
        refine RL.nil ?_
        (try simp (disch := omega) only [qA])
        ((repeat refine CWp.seq ?_); refine CWp.region ?_)
        repeat (first | refine RL.w good ?_ | refine RL.k ?_)
        refine RL.nil ?_
        (try simp (disch := omega) only [qA])
        ((repeat refine CWp.seq ?_); refine CWp.cnd good ?_ ?_)
        · intro hc; cases hc
        · intro _
          (refine CWp.skip ?_; (try simp (disch := omega) only [qA]))
          ((repeat refine CWp.seq ?_); refine CWp.region ?_)
          repeat (first | refine RL.w good ?_ | refine RL.k ?_)
          refine RL.nil ?_
          (try simp (disch := omega) only [qA])
          (refine CWp.ret ?_; (try simp (disch := omega) only [qA]); refine rtB ?_; (try simp only [oneV]))
          exact EndB.plain En rfl ⟨by rw [hd]; rfl, rfl⟩
      | some l =>
        rw [hf] at hm
        have hd : distF n = ((l.length : Int) - 1, 0) := by unfold distF; rw [hb, hf]; rfl
        have hl := hlen.out l hf
        have hvl := hm.is.len
        simp only [push_cast]
        repeat (first | refine RL.w good ?_ | refine RL.k ?_)
        refine RL.nil ?_
        (try simp (disch := omega) only [qA])
        ((repeat refine CWp.seq ?_); refine CWp.region ?_)
        repeat (first | refine RL.w good ?_ | refine RL.k ?_)
        refine RL.nil ?_
        (try simp (disch := omega) only [qA])
        ((repeat refine CWp.seq ?_); refine CWp.cnd good ?_ ?_)
        · intro hc; cases hc
        · intro _
          (refine CWp.skip ?_; (try simp (disch := omega) only [qA]))
          ((repeat refine CWp.seq ?_); refine CWp.region ?_)
          repeat (first | refine RL.w good ?_ | refine RL.k ?_)
          refine RL.nil ?_
          (try simp (disch := omega) only [qA])
          (refine CWp.ret ?_; (try simp (disch := omega) only [qA]); refine rtB ?_; (try simp only [oneV]))
          exact hm.endPlain En rfl rfl ⟨by rw [hd], rfl⟩
  · intro v h' q
    unfold chainE at q
    cases hb : btw 1 n 46 <;> rw [hb] at q
    · obtain ⟨e, _⟩ := q; cases e
    · obtain ⟨v, e, _⟩ := q; cases e
end Go.Ab
namespace Go.Ab
open Go.Proofs
set_option maxRecDepth 10000
theorem IsSl.val {sz n : Nat} {h : Hp} {v : Value} {cs : List Value} (hv : IsSl sz h v cs n) : known v = true ∧ cellsOf v = [v] ∧ one v = true := by
  obtain ⟨_, ⟨rfl, _⟩ | ⟨i, o, c, ob, ro, e, rfl, _⟩⟩ := hv <;> exact ⟨rfl, rfl, rfl⟩
theorem loopL_len {s : Sr} {l : List Int} {f : List Int → List (List Int)} {N : Nat} (hf : ∀ l', l'.length = l.length + 1 → ∀ r ∈ f l', r.length ≤ N) : ∀ (m : Nat) (x : Int), ∀ r ∈ loopL s l f m x, r.length ≤ N
  | 0, _, r, hr => by cases hr
  | m + 1, x, r, hr => by
    unfold loopL at hr
    rcases List.mem_append.1 hr with hr | hr
    · cases hk : okNext s l x with
      | true => rw [hk] at hr; exact hf _ (by simp) r hr
      | false => rw [hk] at hr; cases hr
    · exact loopL_len hf m _ r hr
theorem visL_len (s : Sr) : ∀ (k : Nat) (l : List Int), ∀ r ∈ visL s k l, r.length ≤ l.length + k
  | 0, l, r, hr => by
    unfold visL at hr
    cases hk : (lastI l == s.n) with
    | true => rw [hk] at hr; simp at hr; subst hr; omega
    | false => rw [hk] at hr; cases hr
  | k + 1, l, r, hr => by
    unfold visL at hr
    cases hk : decide (lastI l * 2 ^ (k + 1) < s.n) with
    | true => rw [hk] at hr; cases hr
    | false =>
      rw [hk] at hr
      exact loopL_len (N := l.length + (k + 1)) (fun l' hl r hr => by have := visL_len s k l' r hr; omega) _ _ r hr
theorem firstL_len (s : Sr) : ∀ (n k : Nat) (l : List Int), firstL s n k = some l → l.length ≤ 1 + (n + k)
  | 0, _, _, h => by cases h
  | n + 1, k, l, h => by
    unfold firstL at h
    cases hv : visL s k [1] with
    | nil => rw [hv] at h; have := firstL_len s n (k + 1) l h; omega
    | cons a r =>
      rw [hv] at h
      cases h
      have := visL_len s k [1] l (by rw [hv]; exact List.mem_cons_self)
      simp at this
      omega
theorem first_len {s : Sr} {l : List Int} (h : first s = some l) : l.length ≤ 9 := by
  unfold first at h
  cases hh : has s.spoilt 1 with
  | true => rw [hh] at h; cases h
  | false => rw [hh] at h; exact firstL_len s 8 0 l h
theorem f20s (n : Int) (h : Hp) : ACalls Tryz.prog 20 [.int .i64 n] (IntsErr h) h := by
  (refine ACalls.bodyB (fn := Tryz.f20) (ng := 4) (N := 10) (res := [.tmp 2, .tmp 3]) (by kernel_rfl) rfl rfl rfl (by kernel_rfl) (fun En hs => ?_); simp only [argsL, Nat.reduceAdd])
  clear hs
  ((repeat refine CWp.seq ?_); refine CWp.region ?_)
  repeat (first | refine RL.w good ?_ | refine RL.k ?_)
  refine RL.nil ?_
  ((repeat refine CWp.seq ?_); refine CWp.region ?_)
  repeat (first | refine RL.w good ?_ | refine RL.k ?_)
  (refine' RL.c good ?_ ?_ ?_; rotate_left)
  · exact f41s _ _ _ _
  · rintro v' h' ⟨e, rfl⟩
    cases e
    simp only [push_cast]
    cases hb : btw 1 n 46
    · repeat (first | refine RL.w good ?_ | refine RL.k ?_)
      refine RL.nil ?_
      (try simp (disch := omega) only [qA])
      ((repeat refine CWp.seq ?_); refine CWp.cnd good ?_ ?_)
      · intro _
        ((repeat refine CWp.seq ?_); refine CWp.region ?_)
        repeat (first | refine RL.w good ?_ | refine RL.k ?_)
        refine RL.nil ?_
        (refine CWp.ret ?_; (try simp (disch := omega) only [qA]); refine rtB ?_; (try simp only [oneV]))
        exact EndB.plain En rfl ⟨[], _, _, rfl, .inl ⟨rfl, rfl, rfl⟩, by simp⟩
      · intro hc; cases hc
    · repeat (first | refine RL.w good ?_ | refine RL.k ?_)
      refine RL.nil ?_
      (try simp (disch := omega) only [qA])
      ((repeat refine CWp.seq ?_); refine CWp.cnd good ?_ ?_)
      · intro hc; cases hc
      · intro _
        (refine CWp.skip ?_; (try simp (disch := omega) only [qA]))
        ((repeat refine CWp.seq ?_); refine CWp.region ?_)
        repeat (first | refine RL.w good ?_ | refine RL.k ?_)
        (refine' RL.c good ?_ ?_ ?_; rotate_left)
        · exact f45s ⟨n, [], true⟩ ⟨btw_spec hb, by simp⟩ _ _ _ rfl (nilInts _)
        · rintro v' h' ⟨v2, e, hm⟩
          cases e
          simp only [push_cast]
          repeat (first | refine RL.w good ?_ | refine RL.k ?_)
          refine RL.nil ?_
          (try simp (disch := omega) only [qA])
          (refine CWp.ret ?_; (try simp (disch := omega) only [qA]); refine rtB ?_; (try simp only [oneV]))
          cases hf : first ⟨n, [], true⟩ with
          | none =>
            rw [hf] at hm
            obtain ⟨rfl, rfl⟩ := hm
            exact EndB.plain En rfl ⟨[], _, _, rfl, .inl ⟨rfl, rfl, rfl⟩, by simp⟩
          | some l =>
            rw [hf] at hm
            exact hm.endWith En rfl rfl fun v2 h2 m => ⟨l, v2, 0, rfl, m, by have := first_len hf; omega⟩
        · rintro v h' ⟨v2, e, _⟩; cases e
  · rintro v h' ⟨e, _⟩; cases e
theorem f26s (n : Int) (spv : Value) (sp : List Int) (h : Hp) (hsp : IsInts h spv sp) (hl : sp.length ≤ 1000000) : ACalls Tryz.prog 26 [.int .i64 n, spv] (IntsErr h) h := by
  have hlen := hsp.len
  obtain ⟨hk1, hk2, hk3⟩ := hsp.sl.val
  (refine ACalls.bodyB (fn := Tryz.f26) (ng := 4) (N := 22) (res := [.tmp 4, .tmp 5]) (by kernel_rfl) rfl rfl rfl (by kernel_rfl) (fun En hs => ?_); simp only [argsL, Nat.reduceAdd])
  have sv := hsp.sv
  clear hs
  ((repeat refine CWp.seq ?_); refine CWp.region ?_)
  repeat (first | refine RL.w good ?_ | refine RL.k ?_)
  refine RL.nil ?_
  ((repeat refine CWp.seq ?_); refine CWp.block ?_)
  ((repeat refine CWp.seq ?_); refine CWp.region ?_)
  repeat (first | refine RL.w good ?_ | refine RL.k ?_)
  (refine' RL.c good ?_ ?_ ?_; rotate_left)
  · exact f41s _ _ _ _
  · rintro v' h' ⟨e, rfl⟩
    cases e
    simp only [push_cast]
    cases hb : btw 1 n 46
    · repeat (first | refine RL.w good ?_ | refine RL.k ?_)
      refine RL.nil ?_
      (try simp (disch := omega) only [qA])
      ((repeat refine CWp.seq ?_); refine CWp.cnd good ?_ ?_)
      · intro _
        ((repeat refine CWp.seq ?_); refine CWp.region ?_)
        repeat (first | refine RL.w good ?_ | refine RL.k ?_)
        refine RL.nil ?_
        (try simp (disch := omega) only [qA])
        (refine CWp.ret ?_; (try simp (disch := omega) only [qA]); refine rtB ?_; (try simp only [oneV]))
        exact EndB.plain En rfl ⟨[], _, _, rfl, .inl ⟨rfl, rfl, rfl⟩, by simp⟩
      · intro hc; cases hc
    · repeat (first | refine RL.w good ?_ | refine RL.k ?_)
      refine RL.nil ?_
      (try simp (disch := omega) only [qA])
      ((repeat refine CWp.seq ?_); refine CWp.cnd good ?_ ?_)
      · intro hc; cases hc
      · intro _
        ((repeat refine CWp.seq ?_); refine CWp.region ?_)
        repeat (first | refine RL.w good ?_ | refine RL.k ?_)
        refine RL.nil ?_
        (try simp (disch := omega) only [qA])
        ((repeat refine CWp.seq ?_); refine CWp.cnd good ?_ ?_)
        · (intro hc; (try simp only [decide_eq_true_eq, decide_eq_false_iff_not, Bool.not_eq_true, Bool.not_eq_false, Int.not_lt, Int.not_le, bne_iff_ne, beq_iff_eq, ne_eq, Bool.not_eq_eq_eq_not, Bool.not_true, Bool.not_false] at hc))
          ((repeat refine CWp.seq ?_); refine CWp.region ?_)
          repeat (first | refine RL.w good ?_ | refine RL.k ?_)
          refine RL.nil ?_
          (try simp (disch := omega) only [qA])
          (refine CWp.ret ?_; (try simp (disch := omega) only [qA]); refine rtB ?_; (try simp only [oneV]))
          exact EndB.plain En rfl ⟨[], _, _, rfl, .inl ⟨rfl, rfl, rfl⟩, by simp⟩
        · (intro hc; (try simp only [decide_eq_true_eq, decide_eq_false_iff_not, Bool.not_eq_true, Bool.not_eq_false, Int.not_lt, Int.not_le, bne_iff_ne, beq_iff_eq, ne_eq, Bool.not_eq_eq_eq_not, Bool.not_true, Bool.not_false] at hc))
          (refine CWp.skip ?_; (try simp (disch := omega) only [qA]))
          ((repeat refine CWp.seq ?_); refine CWp.region ?_)
          repeat (first | refine RL.w good ?_ | refine RL.k ?_)
          (refine' RL.c good ?_ ?_ ?_; rotate_left)
          · exact f45s ⟨n, sp, false⟩ ⟨btw_spec hb, by simp only; omega⟩ _ _ _ rfl (hsp.ov _ _)
          · rintro v' h' ⟨v2, e, hm⟩
            cases e
            simp only [push_cast]
            repeat (first | refine RL.w good ?_ | refine RL.k ?_)
            refine RL.nil ?_
            (try simp (disch := omega) only [qA])
            cases hf : first ⟨n, sp, false⟩ with
            | none =>
              rw [hf] at hm
              obtain ⟨rfl, rfl⟩ := hm
              ((repeat refine CWp.seq ?_); refine CWp.region ?_)
              repeat (first | refine RL.w good ?_ | refine RL.k ?_)
              refine RL.nil ?_
              (try simp (disch := omega) only [qA])
              ((repeat refine CWp.seq ?_); refine CWp.cnd good ?_ ?_)
              · intro _
                ((repeat refine CWp.seq ?_); refine CWp.region ?_)
                repeat (first | refine RL.w good ?_ | refine RL.k ?_)
                refine RL.nil ?_
                (try simp (disch := omega) only [qA])
                (refine CWp.ret ?_; (try simp (disch := omega) only [qA]); refine rtB ?_; (try simp only [oneV]))
                exact EndB.plain En rfl ⟨[], _, _, rfl, .inl ⟨rfl, rfl, rfl⟩, by simp⟩
              · intro hc; cases hc
            | some l =>
              rw [hf] at hm
              have hll := first_len hf
              rcases hm with ⟨rfl, hln, rfl⟩ | ⟨c, rfl, rfl, hc⟩
              · ((repeat refine CWp.seq ?_); refine CWp.region ?_)
                repeat (first | refine RL.w good ?_ | refine RL.k ?_)
                refine RL.nil ?_
                (try simp (disch := omega) only [qA])
                ((repeat refine CWp.seq ?_); refine CWp.cnd good ?_ ?_)
                · intro _
                  ((repeat refine CWp.seq ?_); refine CWp.region ?_)
                  repeat (first | refine RL.w good ?_ | refine RL.k ?_)
                  refine RL.nil ?_
                  (try simp (disch := omega) only [qA])
                  (refine CWp.ret ?_; (try simp (disch := omega) only [qA]); refine rtB ?_; (try simp only [oneV]))
                  exact EndB.plain En rfl ⟨[], _, _, rfl, .inl ⟨rfl, rfl, rfl⟩, by simp⟩
                · intro hc; cases hc
              · ((repeat refine CWp.seq ?_); refine CWp.region ?_)
                repeat (first | refine RL.w good ?_ | refine RL.k ?_)
                refine RL.nil ?_
                (try simp (disch := omega) only [qA])
                ((repeat refine CWp.seq ?_); refine CWp.cnd good ?_ ?_)
                · intro hc; cases hc
                · intro _
                  (refine CWp.skip ?_; (try simp (disch := omega) only [qA]))
                  ((repeat refine CWp.seq ?_); refine CWp.region ?_)
                  repeat (first | refine RL.w good ?_ | refine RL.k ?_)
                  refine RL.nil ?_
                  (try simp (disch := omega) only [qA])
                  (refine CWp.ret ?_; (try simp (disch := omega) only [qA]); refine rtB ?_; (try simp only [oneV]))
                  exact MadeInts.endWith En (L := []) (k := 0) rfl (.inr ⟨c, rfl, rfl, hc⟩) rfl fun v2 h2 m => ⟨l, v2, 0, rfl, m, by omega⟩
          · rintro v h' ⟨v2, e, _⟩; cases e
  · rintro v h' ⟨e, _⟩; cases e
end Go.Ab
namespace Go.Ab
open Go.Proofs
def u8L : List Int → List Value
  | [] => []
  | n :: l => .int .u8 n :: u8L l
def i64L : List Int → List Value
  | [] => []
  | n :: l => .int .i64 n :: i64L l
/-- the heap of globals -/
def hp0 (t : Nat) : Tr AObj := ((((Tr.nil.set 24 0 (.cells [.slice (some ⟨4, 0, none⟩) 16 16] true 22)).set 24 4 (.cells (i64L [0,1,1,2,1,2,2,3,1,2,2,3,2,3,3,4]) true t)).set 24 2 (.cells (u8L [128,191,160,191,128,159,144,191,128,143,0,0,0,0,0,0,0,0,0,0,0,0,0,0,0,0,0,0,0,0,0,0]) true 264)).set 24 1 .dead).set 24 3 .dead
def yes : KR := fun v _ _ => match v with | .bool b => b | _ => false
def no : KP := fun _ _ _ _ => false
def mts : List (Nat × String × Nat) := [(211, "tusche/ink.over", 169), (212, "tusche/ink.over", 245)]
theorem m1 : MethOK Tryz.prog 211 "tusche/ink.over" 169 := fun v w => by kernel_rfl
theorem m2 : MethOK Tryz.prog 212 "tusche/ink.over" 245 := fun v w => by kernel_rfl
theorem mtok : MtOK Tryz.prog mts := fun e he => by
  cases he with
  | head => exact m1
  | tail _ he => cases he with
    | head => exact m2
    | tail _ he => cases he
theorem mo : Tryz.prog.follows .mixedOrders = true := by kernel_rfl
theorem gl : 4 ≤ Tryz.prog.globals.size := by decide
/-- chain's distance of 23 is known -/
def pr1 : Prim := fun f args _ _ => bif Nat.beq f 47 then (match args with | [.int .i64 n] => bif n == 23 then some (.tuple #[.int .i64 6, .int .i64 0], .keep) else none | _ => none) else none
theorem dist23 : distF 23 = (6, 0) := by kernel_rfl
theorem pr1ok : PrimOK Tryz.prog pr1 := by
  intro f args h v e hr
  unfold pr1 at hr
  cases hf : Nat.beq f 47 with
  | false => rw [hf] at hr; cases hr
  | true =>
    rw [hf] at hr
    simp only [cond_true] at hr
    obtain rfl := Nat.eq_of_beq_eq_true hf
    split at hr
    · rename_i n
      cases hn : (n == 23) with
      | false => rw [hn] at hr; cases hr
      | true =>
        rw [hn] at hr
        obtain rfl : n = 23 := by simpa using hn
        cases hr
        refine ⟨en (by kernel_rfl), (f47s 23 h fun l hl => by have := first_len hl; omega).mono ?_⟩
        rintro e h' ⟨rfl, rfl⟩
        rw [dist23]
        exact ⟨rfl, rfl⟩
    · cases hr
def orc0 : Orc := fun _ => none
theorem orc0ok : OrcOK Tryz.prog orc0 := fun _ _ _ _ _ _ _ h => by cases h
theorem yes_calls {t : Nat} {pr : Prim} {orc : Orc} (hp : PrimOK Tryz.prog pr) (ho : OrcOK Tryz.prog orc) {f : Nat} (h : evCall (eeOf Tryz.prog 4 mts pr orc) 1000000 f [] (hp0 t) 5 yes no = true) : ACalls Tryz.prog f [] (fun e _ => e = .ret (.bool true)) (hpOf (hp0 t) 5) := by
  refine ((sound gl mtok hp ho mo 1000000).call f [] (hp0 t) 5 yes no h).mono ?_
  rintro e h' ⟨hp, nx, _, q⟩
  cases e with
  | ret v =>
    simp only [yes] at q
    split at q
    · rw [q]
    · cases q
  | panic v => obtain ⟨tm, q⟩ := q; cases q
end Go.Ab
