/- A part of the proof of a law over a given program: Vis. -/
import Derived.Test.YtckgcmgnpblnaaaGreatDoorT14
set_option linter.unusedVariables false
set_option linter.unusedSimpArgs false
namespace Go.Ab
open Go.Proofs
set_option maxRecDepth 10000
/-- what is searched -/
structure Sr where
  n : Int
  spoilt : List Int
  row : Bool
def okNext (s : Sr) (l : List Int) (x : Int) : Bool :=
  match wayL l x l.length with
  | some (i, _) => (!s.row || ((i : Int) == (l.length : Int) - 1)) && !has s.spoilt x
  | none => false
def loopL (s : Sr) (l : List Int) (f : List Int → List (List Int)) : Nat → Int → List (List Int)
  | 0, _ => []
  | m + 1, x => (bif okNext s l x then f (l ++ [x]) else []) ++ loopL s l f m (x + 1)
def lastI (l : List Int) : Int := l.getD (l.length - 1) 0
def visL (s : Sr) : Nat → List Int → List (List Int)
  | 0, l => bif lastI l == s.n then [l] else []
  | k + 1, l => bif decide (lastI l * 2 ^ (k + 1) < s.n) then [] else loopL s l (visL s k) ((bif decide (2 * lastI l < s.n) then 2 * lastI l else s.n) - lastI l).toNat (lastI l + 1)
/-- how a search ends whose chains are thrown -/
def Thrown (h : Hp) (ls : List (List Int)) (e : AEnd) (h' : Hp) : Prop :=
  match ls with
  | [] => e = .ret (.tuple #[]) ∧ h' = h
  | l :: _ => ∃ v, e = .panic (.iface 22 v) ∧ MadeInts h l v h'
theorem f67s (v : Value) (l : List Int) (h : Hp) (hv : IsInts h v l) (hl : l.length ≤ 1000000) : ACalls Tryz.prog 67 [v] (fun e h' => ∃ v', e = .panic (.iface 22 v') ∧ MadeInts h l v' h') h := by
  (refine ACalls.bodyB (fn := Tryz.f67) (ng := 4) (N := 5) (res := []) (by kernel_rfl) rfl rfl rfl (by kernel_rfl) (fun En hs => ?_); simp only [argsL, Nat.reduceAdd])
  have sv := hs _ List.mem_cons_self
  clear hs
  ((repeat refine CWp.seq ?_); refine CWp.region ?_)
  repeat (first | refine RL.w good ?_ | refine RL.k ?_)
  (refine' RL.c good ?_ ?_ ?_; rotate_left)
  · exact f52s _ _ _ (hv.ov _ _) hl
  · rintro v' h' ⟨v2, e, hm⟩
    cases e
    simp only [push_cast]
    repeat (first | refine RL.w good ?_ | refine RL.k ?_)
    apply RL.panic good
    · first | exact rfl | (simp only [push_cast, reduceIte, Nat.reduceEqDiff, *]; done) | (simp only [push_cast, reduceIte, Nat.reduceEqDiff, *]; exact rfl)
    · exact rfl
    · simp (disch := omega) only [push_cast, reduceIte, Nat.reduceEqDiff, beq_self_eq_true, bne_self_eq_false, Int.reduceBEq, Int.reduceBNe, Int.reduceLT, Int.reduceLE, Nat.reduceAdd, Nat.reduceMul, Nat.reduceSub, Int.reduceToNat, Nat.reducePow, Int.reducePow, *] <;> exact rfl
    obtain ⟨τ, h2, v2, a, b, c⟩ := hm.fade En rfl
    exact ⟨τ, h2, .iface 22 v2, a, ⟨_, rfl, b⟩, _, rfl, c⟩
  · rintro v h' ⟨v2, e, _⟩; cases e
structure SrOK (s : Sr) : Prop where
  n : 1 ≤ s.n ∧ s.n ≤ 46
  sp : s.spoilt.length ≤ 12
structure ChOK (s : Sr) (l : List Int) : Prop where
  pos : 0 < l.length
  len : l.length ≤ 20
  b : ∀ j, 0 ≤ l.getD j 0 ∧ l.getD j 0 ≤ 46
set_option maxHeartbeats 4000000 in
theorem visit_first (s : Sr) (hso : SrOK s) : ∀ (k : Nat) (h : Hp) (sv v : Value) (l : List Int) (row : Bool), s.row = row → k ≤ 7 → l.length + k ≤ 20 → ChOK s l → IsInts h sv s.spoilt → IsInts h v l →
    ACalls Tryz.prog 50 [.agg #[.int .i64 s.n, sv, .bool row], v, .int .i64 k, .func (.func 67) #[] #[]] (fun e h' => Thrown h (visL s k l) e h') h := by
  intro k
  induction k with
  | zero =>
    intro h spv v l row hr hk hlk hl hsp hv
    have hlen := hv.len
    have hidx := hv.idx
    have hld := hv.ld
    have hpos := hl.pos
    have hln := hl.len
    have hb := hl.b (l.length - 1)
    have e1 : ((l.length : Int) - 1).toNat = l.length - 1 := by omega
    (refine ACalls.bodyB (fn := Tryz.f50) (ng := 4) (N := 89) (res := []) (by kernel_rfl) rfl rfl rfl (by kernel_rfl) (fun En hs => ?_); simp only [argsL, Nat.reduceAdd])
    have sv := hv.sv
    have ssv := hsp.sv
    clear hs
    ((repeat refine CWp.seq ?_); refine CWp.region ?_)
    repeat (first | refine RL.w good ?_ | refine RL.k ?_)
    refine RL.nil ?_
    (try simp (disch := omega) only [qA])
    ((repeat refine CWp.seq ?_); refine CWp.region ?_)
    repeat (first | refine RL.w good ?_ | refine RL.k ?_)
    refine RL.nil ?_
    (try simp (disch := omega) only [qA])
    ((repeat refine CWp.seq ?_); refine CWp.block ?_)
    ((repeat refine CWp.seq ?_); refine CWp.region ?_)
    repeat (first | refine RL.w good ?_ | refine RL.k ?_)
    refine RL.nil ?_
    (try simp (disch := omega) only [qA])
    cases hq : (l.getD (l.length - 1) 0 == s.n)
    · have hvis : visL s 0 l = [] := by unfold visL lastI; rw [hq]; rfl
      rw [hvis]
      ((repeat refine CWp.seq ?_); refine CWp.cnd good ?_ ?_)
      · intro hc; cases hc
      · intro _
        ((repeat refine CWp.seq ?_); refine CWp.drawI good (fun g => memN g []) [(0, true), (1, true), (2, true), (3, true), (4, true), (5, true), (6, true), (7, true), (8, true), (9, true), (10, true)] (by kernel_rfl) (fun _ _ _ q => q) ?_)
        repeat (first | refine PL.w ?_ | refine PL.wk ?_ | refine PL.ew ?_ | refine PL.ewk ?_)
        refine PL.nil ?_
        (try simp (disch := omega) only [qA])
        ((repeat refine CWp.seq ?_); refine CWp.cnd good ?_ ?_)
        · intro _
          (refine CWp.ret ?_; (try simp (disch := omega) only [qA]); refine rtB ?_; (try simp only [oneV]))
          exact EndB.plain En rfl ⟨rfl, rfl⟩
        · intro hc; cases hc
    · have hvis : visL s 0 l = [l] := by unfold visL lastI; rw [hq]; rfl
      rw [hvis]
      ((repeat refine CWp.seq ?_); refine CWp.cnd good ?_ ?_)
      · intro _
        ((repeat refine CWp.seq ?_); refine CWp.region ?_)
        repeat (first | refine RL.w good ?_ | refine RL.k ?_)
        (refine' RL.c good ?_ ?_ ?_; rotate_left)
        · exact f67s _ _ _ (hv.ov _ _) (by omega)
        · rintro v' h' ⟨_, e, _⟩; cases e
        · rintro v' h' ⟨v2, e, hm⟩
          cases e
          (try simp (disch := omega) only [qA])
          obtain ⟨τ, h2, v3, a, b, c⟩ := hm.fade En rfl
          exact ⟨τ, h2, .iface 22 v3, a, ⟨_, rfl, b⟩, _, rfl, c⟩
      · intro hc; cases hc
  | succ k ih =>
    intro h spv v l row hr hk hlk hl hsp hv
    have hlen := hv.len
    have hidx := hv.idx
    have hld := hv.ld
    have hpos := hl.pos
    have hln := hl.len
    have hb := hl.b (l.length - 1)
    have e1 : ((l.length : Int) - 1).toNat = l.length - 1 := by omega
    have e2 : ((k : Int) + 1).toNat = k + 1 := by omega
    have hk0 : ((k : Int) + 1 == 0) = false := by simp; omega
    have hp1 : (2 : Int) ^ (k + 1) ≤ 128 := by
      have : (2 : Nat) ^ (k + 1) ≤ 2 ^ 7 := Nat.pow_le_pow_right (by omega) (by omega)
      have h2 : ((2 ^ (k + 1) : Nat) : Int) ≤ ((2 ^ 7 : Nat) : Int) := by exact_mod_cast this
      simpa using h2
    have hp0 : (0 : Int) ≤ 2 ^ (k + 1) := Int.pow_nonneg (by omega)
    have hp2 : l.getD (l.length - 1) 0 * 2 ^ (k + 1) ≤ 46 * 128 := Int.mul_le_mul hb.2 hp1 hp0 (by omega)
    have hp3 : 0 ≤ l.getD (l.length - 1) 0 * 2 ^ (k + 1) := Int.mul_nonneg hb.1 hp0
    (refine ACalls.bodyB (fn := Tryz.f50) (ng := 4) (N := 89) (res := []) (by kernel_rfl) rfl rfl rfl (by kernel_rfl) (fun En hs => ?_); simp only [argsL, Nat.reduceAdd])
    have sv := hv.sv
    have ssv := hsp.sv
    clear hs
    ((repeat refine CWp.seq ?_); refine CWp.region ?_)
    repeat (first | refine RL.w good ?_ | refine RL.k ?_)
    refine RL.nil ?_
    (try simp (disch := omega) only [qA])
    ((repeat refine CWp.seq ?_); refine CWp.region ?_)
    repeat (first | refine RL.w good ?_ | refine RL.k ?_)
    refine RL.nil ?_
    (try simp (disch := omega) only [qA])
    ((repeat refine CWp.seq ?_); refine CWp.block ?_)
    ((repeat refine CWp.seq ?_); refine CWp.region ?_)
    repeat (first | refine RL.w good ?_ | refine RL.k ?_)
    refine RL.nil ?_
    (try simp (disch := omega) only [qA])
    ((repeat refine CWp.seq ?_); refine CWp.cnd good ?_ ?_)
    · intro hc; cases hc
    · intro _
      ((repeat refine CWp.seq ?_); refine CWp.drawI good (fun g => memN g []) [(0, true), (1, true), (2, true), (3, true), (4, true), (5, true), (6, true), (7, true), (8, true), (9, true), (10, true)] (by kernel_rfl) (fun _ _ _ q => q) ?_)
      repeat (first | refine PL.w ?_ | refine PL.wk ?_ | refine PL.ew ?_ | refine PL.ewk ?_)
      refine PL.nil ?_
      (try simp (disch := omega) only [qA])
      ((repeat refine CWp.seq ?_); refine CWp.cnd good ?_ ?_)
      · intro hc
        have hvis : visL s (k + 1) l = [] := by unfold visL lastI; rw [hc]; rfl
        rw [hvis]
        (refine CWp.ret ?_; (try simp (disch := omega) only [qA]); refine rtB ?_; (try simp only [oneV]))
        exact EndB.plain En rfl ⟨rfl, rfl⟩
      · intro hc
        have hvis : visL s (k + 1) l = loopL s l (visL s k) ((bif decide (2 * l.getD (l.length - 1) 0 < s.n) then 2 * l.getD (l.length - 1) 0 else s.n) - l.getD (l.length - 1) 0).toNat (l.getD (l.length - 1) 0 + 1) := by unfold visL lastI; rw [hc]; rfl
        generalize hM : (bif decide (2 * l.getD (l.length - 1) 0 < s.n) then 2 * l.getD (l.length - 1) 0 else s.n) = M at hvis
        have hMn : M ≤ 46 := by
          have := hso.n
          cases hd : decide (2 * l.getD (l.length - 1) 0 < s.n) <;> rw [hd] at hM <;> simp only [cond_true, cond_false, decide_eq_true_eq] at hM hd <;> omega
        (refine CWp.skip ?_; (try simp (disch := omega) only [qA]))
        ((repeat refine CWp.seq ?_); refine CWp.region ?_)
        repeat (first | refine RL.w good ?_ | refine RL.k ?_)
        refine RL.nil ?_
        (try simp (disch := omega) only [qA])
        ((repeat refine CWp.seq ?_); refine CWp.block ?_)
        refine CWp.loop (fun (i : Nat) => (tl [(1, v), (2, .int .i64 ((k : Int) + 1)), (3, .func (.func 67) #[] #[]), (4, .pointer (some ⟨loc h 0, 0, none⟩)), (8, .int .i64 (l.getD (l.length - 1) 0)), (9, .int .i64 (l.getD (l.length - 1) 0 + 1 + i))], ov h [] [(0, .cells [.int .i64 s.n, spv, .bool row] false 75)] 1)) (fun i => (M - l.getD (l.length - 1) 0).toNat - i)
          (fun i => i ≤ (M - l.getD (l.length - 1) 0).toNat ∧ visL s (k + 1) l = loopL s l (visL s k) ((M - l.getD (l.length - 1) 0).toNat - i) (l.getD (l.length - 1) 0 + 1 + i)) 0 ⟨by omega, by rw [hvis]; simp⟩ ?_ ?_
        · ((try dsimp only); apply fades_to En [(0, 0)]; (· (repeat (refine And.intro ?_ ?_; (· ((try simp only [push_cast, reduceIte, Nat.reduceEqDiff, *]) <;> first | exact rfl | exact SV.fv En (by assumption) | exact ⟨_, rfl, Rn_loc ⟨_, rfl⟩ rfl, rfl, rfl⟩ | exact ⟨_, _, rfl, rfl, rfl⟩ | exact congrArg (Value.int _) (by omega))))) <;> exact trivial); (· exact trivial); (· exact trivial); (· (repeat (refine And.intro ⟨by decide, _, _, rfl, rfl, ?_⟩ ?_; (· (first | exact ⟨_, rfl, flatsFV rfl⟩ | exact ⟨_, rfl, intsFVL _⟩ | (refine ⟨_, rfl, ?_⟩; (repeat (refine ⟨_, _, rfl, ?_, ?_⟩; (· (first | exact rfl | exact SV.fv En (by assumption) | exact ⟨_, rfl, Rn_loc ⟨_, rfl⟩ rfl, rfl, rfl⟩ | exact ⟨_, _, rfl, rfl, rfl⟩ | exact congrArg (Value.int _) (by omega))))); exact rfl))))) <;> exact trivial); (· exact rfl))
        · rintro i ⟨h1, h2⟩
          dsimp only at h1 h2 ⊢
          ((repeat refine CWp.seq ?_); refine CWp.region ?_)
          repeat (first | refine RL.w good ?_ | refine RL.k ?_)
          refine RL.nil ?_
          (try simp (disch := omega) only [qA])
          ((repeat refine CWp.seq ?_); refine CWp.cnd good ?_ ?_)
          · (intro hc; (try simp only [decide_eq_true_eq, decide_eq_false_iff_not, Bool.not_eq_true, Bool.not_eq_false, Int.not_lt, Int.not_le, bne_iff_ne, beq_iff_eq, ne_eq, Bool.not_eq_eq_eq_not, Bool.not_true, Bool.not_false] at hc))
            have e3 : (M - l.getD (l.length - 1) 0).toNat - i = ((M - l.getD (l.length - 1) 0).toNat - (i + 1)) + 1 := by omega
            rw [e3] at h2
            unfold loopL at h2
            generalize hx : l.getD (l.length - 1) 0 + 1 + (i : Int) = x at *
            (refine CWp.skip ?_; (try simp (disch := omega) only [qA]))
            ((repeat refine CWp.seq ?_); refine CWp.block ?_)
            have hxb : 0 ≤ x ∧ x ≤ 46 := by omega
            ((repeat refine CWp.seq ?_); refine CWp.region ?_)
            repeat (first | refine RL.w good ?_ | refine RL.k ?_)
            (refine' RL.c good ?_ ?_ ?_; rotate_left)
            · exact f42s _ _ _ _ (hv.ov _ _) (by omega) (by omega) (fun j => by have := hl.b j; omega)
            · rintro v' h' ⟨e, rfl⟩
              cases e
              have hok : okNext s l x = (match wayL l x l.length with | some (i, _) => (!s.row || ((i : Int) == (l.length : Int) - 1)) && !has s.spoilt x | none => false) := rfl
              unfold wayV
              cases hw : wayL l x l.length with
              | none =>
                rw [hw] at hok
                simp only at hok
                rw [hok] at h2
                simp only [push_cast]
                repeat (first | refine RL.w good ?_ | refine RL.k ?_)
                refine RL.nil ?_
                (try simp (disch := omega) only [qA])
                ((repeat refine CWp.seq ?_); refine CWp.region ?_)
                repeat (first | refine RL.w good ?_ | refine RL.k ?_)
                refine RL.nil ?_
                (try simp (disch := omega) only [qA])
                ((repeat refine CWp.seq ?_); refine CWp.cnd good ?_ ?_)
                · intro hc; cases hc
                · intro _
                  (refine CWp.skip ?_; (try simp (disch := omega) only [qA]))
                  ((repeat refine CWp.seq ?_); refine CWp.region ?_)
                  repeat (first | refine RL.w good ?_ | refine RL.k ?_)
                  refine RL.nil ?_
                  (try simp (disch := omega) only [qA])
                  refine ⟨i + 1, ⟨by omega, ?_⟩, by omega, ?_⟩
                  · rw [h2, show l.getD (l.length - 1) 0 + 1 + ((i + 1 : Nat) : Int) = x + 1 by omega]; rfl
                  · ((try dsimp only); apply fades_to En [(0, 0)]; (· (repeat (refine And.intro ?_ ?_; (· ((try simp only [push_cast, reduceIte, Nat.reduceEqDiff, *]) <;> first | exact rfl | exact SV.fv En (by assumption) | exact ⟨_, rfl, Rn_loc ⟨_, rfl⟩ rfl, rfl, rfl⟩ | exact ⟨_, _, rfl, rfl, rfl⟩ | exact congrArg (Value.int _) (by omega))))) <;> exact trivial); (· exact trivial); (· exact trivial); (· (repeat (refine And.intro ⟨by decide, _, _, rfl, rfl, ?_⟩ ?_; (· (first | exact ⟨_, rfl, flatsFV rfl⟩ | exact ⟨_, rfl, intsFVL _⟩ | (refine ⟨_, rfl, ?_⟩; (repeat (refine ⟨_, _, rfl, ?_, ?_⟩; (· (first | exact rfl | exact SV.fv En (by assumption) | exact ⟨_, rfl, Rn_loc ⟨_, rfl⟩ rfl, rfl, rfl⟩ | exact ⟨_, _, rfl, rfl, rfl⟩ | exact congrArg (Value.int _) (by omega))))); exact rfl))))) <;> exact trivial); (· exact rfl))
              | some r =>
                obtain ⟨i2, k2⟩ := r
                rw [hw] at hok
                simp only at hok
                simp only [push_cast]
                repeat (first | refine RL.w good ?_ | refine RL.k ?_)
                refine RL.nil ?_
                (try simp (disch := omega) only [qA])
                ((repeat refine CWp.seq ?_); refine CWp.region ?_)
                repeat (first | refine RL.w good ?_ | refine RL.k ?_)
                have next : ∀ TL L kk, (bif okNext s l x then visL s k (l ++ [x]) else []) = [] → lk L 0 = some (.cells [.int .i64 s.n, spv, .bool row] false 75) → tl TL 1 = v → tl TL 2 = .int .i64 ((k : Int) + 1) → tl TL 3 = .func (.func 67) #[] #[] → tl TL 4 = .pointer (some ⟨loc h 0, 0, none⟩) → tl TL 8 = .int .i64 (l.getD (l.length - 1) 0) → tl TL 9 = .int .i64 (x + 1) →
                    ∃ s', (s' ≤ (M - l.getD (l.length - 1) 0).toNat ∧ visL s (k + 1) l = loopL s l (visL s k) ((M - l.getD (l.length - 1) 0).toNat - s') (l.getD (l.length - 1) 0 + 1 + s')) ∧ (M - l.getD (l.length - 1) 0).toNat - s' < (M - l.getD (l.length - 1) 0).toNat - i ∧
                      FadesTo Tryz.prog h.next (tl TL) (ov h [] L kk) (tl [(1, v), (2, .int .i64 ((k : Int) + 1)), (3, .func (.func 67) #[] #[]), (4, .pointer (some ⟨loc h 0, 0, none⟩)), (8, .int .i64 (l.getD (l.length - 1) 0)), (9, .int .i64 (l.getD (l.length - 1) 0 + 1 + (s' : Int)))]) (ov h [] [(0, .cells [.int .i64 s.n, spv, .bool row] false 75)] 1) := by
                  intro TL L kk hno g0 g1 g2 g3 g4 g8 g9
                  rw [hno] at h2
                  refine ⟨i + 1, ⟨by omega, ?_⟩, by omega, ?_⟩
                  · rw [h2, show l.getD (l.length - 1) 0 + 1 + ((i + 1 : Nat) : Int) = x + 1 by omega]; rfl
                  · apply fades_to En [(0, 0)]
                    · rw [show l.getD (l.length - 1) 0 + 1 + ((i + 1 : Nat) : Int) = x + 1 by omega]
                      (repeat (refine And.intro ?_ ?_; (· ((try simp only [push_cast, reduceIte, Nat.reduceEqDiff, *]) <;> first | exact rfl | exact SV.fv En (by assumption) | exact ⟨_, rfl, Rn_loc ⟨_, rfl⟩ rfl, rfl, rfl⟩ | exact ⟨_, _, rfl, rfl, rfl⟩ | exact congrArg (Value.int _) (by omega))))) <;> exact trivial
                    · exact trivial
                    · exact trivial
                    · refine And.intro ⟨by decide, _, _, rfl, g0, ?_⟩ trivial
                      first | exact ⟨_, rfl, flatsFV rfl⟩ | exact ⟨_, rfl, intsFVL _⟩ | (refine ⟨_, rfl, ?_⟩; (repeat (refine ⟨_, _, rfl, ?_, ?_⟩; (· (first | exact rfl | exact SV.fv En (by assumption) | exact ⟨_, rfl, Rn_loc ⟨_, rfl⟩ rfl, rfl, rfl⟩ | exact ⟨_, _, rfl, rfl, rfl⟩ | exact congrArg (Value.int _) (by omega))))); exact rfl)
                    · exact rfl
                have fin0 : ∀ b, b = okNext s l x → b = false → okNext s l x = false := fun b e1 e2 => e1 ▸ e2
                have hnil : l ≠ [] := List.length_pos_iff.1 hpos
                obtain ⟨hcl1, hcl2, hcl3⟩ := hv.clip (by omega)
                obtain ⟨ci, co, hcv, hci, hcld⟩ := hcl3 hnil
                have hgo : okNext s l x = true → ∀ h2, Thrown (ov h [] [(3, .cells (ints (l ++ [x])) false 3), (2, .cells [.int .i64 x] false 3), (1, .cells [.int .i64 i2, .int .i64 k2] false 69), (0, .cells [.int .i64 s.n, spv, .bool row] false 75)] 4) (visL s k (l ++ [x])) (.ret h2) (ov h [] [] 0) → True := fun _ _ _ => trivial
                clear hgo
                have case1 : Hid (s.row = true → ((i2 : Int) == (l.length : Int) - 1) = false → okNext s l x = false) := ⟨fun a b => by rw [hok, a, b]; rfl⟩
                have case2 : Hid (has s.spoilt x = true → okNext s l x = false) := ⟨fun a => by rw [hok, a]; simp⟩
                have case3 : Hid (s.row = true → ((i2 : Int) == (l.length : Int) - 1) = true → has s.spoilt x = false → okNext s l x = true) := ⟨fun a b c => by rw [hok, a, b, c]; rfl⟩
                have case4 : Hid (s.row = false → has s.spoilt x = false → okNext s l x = true) := ⟨fun a c => by rw [hok, a, c]; rfl⟩
                have e5 : Hid (ChOK s (l ++ [x])) := ⟨⟨by simp, by simp; omega, fun j => by
                  have := hl.b j
                  simp only [List.getD_eq_getElem?_getD, List.getElem?_append] at this ⊢
                  by_cases hj : j < l.length
                  · rw [if_pos hj]; exact this
                  · rw [if_neg hj]
                    cases hjj : j - l.length with
                    | zero => simp; omega
                    | succ q => simp⟩⟩
                replace next := Hid.mk next
                replace ih := Hid.mk ih
                replace h2 := Hid.mk h2
                replace hM := Hid.mk hM
                replace hvis := Hid.mk hvis
                clear hok fin0 hcl1 hcl3 hw e3
                rcases Bool.eq_false_or_eq_true row with rfl | rfl
                · repeat (first | refine RL.w good ?_ | refine RL.k ?_)
                  cases hi : ((i2 : Int) == (l.length : Int) - 1)
                  · have hno := case1.out hr hi
                    repeat (first | refine RL.w good ?_ | refine RL.k ?_)
                    refine RL.nil ?_
                    (try simp (disch := omega) only [qA])
                    ((repeat refine CWp.seq ?_); refine CWp.cnd good ?_ ?_)
                    · intro hc; cases hc
                    · intro _
                      (refine CWp.skip ?_; (try simp (disch := omega) only [qA]))
                      ((repeat refine CWp.seq ?_); refine CWp.region ?_)
                      repeat (first | refine RL.w good ?_ | refine RL.k ?_)
                      refine RL.nil ?_
                      (try simp (disch := omega) only [qA])
                      refine next.out _ _ _ (by rw [hno]; rfl) ?_ ?_ ?_ ?_ ?_ ?_ ?_
                      all_goals (first | exact rfl | simp only [push_cast, reduceIte, Nat.reduceEqDiff])
                  · have case5 := Hid.mk (case3.out hr hi)
                    clear case1 case3 case4 hi
                    repeat (first | refine RL.w good ?_ | refine RL.k ?_)
                    (refine' RL.c good ?_ ?_ ?_; rotate_left)
                    · exact f65s _ _ _ _ (hsp.ov _ _) (by have := hso.sp; omega)
                    · rintro v' h' ⟨e, rfl⟩
                      cases e
                      cases hh : has s.spoilt x
                      · have hyes := case5.out hh
                        simp only [push_cast]
                        repeat (first | refine RL.w good ?_ | refine RL.k ?_)
                        refine RL.nil ?_
                        (try simp (disch := omega) only [qA])
                        ((repeat refine CWp.seq ?_); refine CWp.cnd good ?_ ?_)
                        · intro _
                          ((repeat refine CWp.seq ?_); refine CWp.drawI good (fun g => memN g [69]) [(0, true), (1, true), (2, true), (3, true), (6, true), (7, true), (8, true), (4, false), (5, false), (9, false)] (by kernel_rfl) (fun _ _ _ q => q) ?_)
                          repeat (first | refine PL.w ?_ | refine PL.wk ?_ | refine PL.ew ?_ | refine PL.ewk ?_)
                          (apply PL.flcall; (· (first | exact rfl | (simp only [push_cast, reduceIte, Nat.reduceEqDiff, *]; done) | (simp only [push_cast, reduceIte, Nat.reduceEqDiff, *]; exact rfl))); (· (exact rfl)); (· (exact rfl)); (· (simp (disch := omega) only [push_cast, reduceIte, Nat.reduceEqDiff, beq_self_eq_true, bne_self_eq_false, Int.reduceBEq, Int.reduceBNe, Int.reduceLT, Int.reduceLE, Nat.reduceAdd, Nat.reduceMul, Nat.reduceSub, Int.reduceToNat, Nat.reducePow, Int.reducePow, *] <;> exact rfl)); (· (exact en (by kernel_rfl))); (· (simp (disch := omega) only [push_cast, reduceIte, Nat.reduceEqDiff, beq_self_eq_true, bne_self_eq_false, Int.reduceBEq, Int.reduceBNe, Int.reduceLT, Int.reduceLE, Nat.reduceAdd, Nat.reduceMul, Nat.reduceSub, Int.reduceToNat, Nat.reducePow, Int.reducePow, *] <;> exact rfl)))
                          · exact f69s _ _ _ (hv.ov _ _) (by omega)
                          · simp only [push_cast] <;> exact rfl <;> exact rfl
                          repeat (first | refine PL.w ?_ | refine PL.wk ?_ | refine PL.ew ?_ | refine PL.ewk ?_)
                          (apply PL.ef; (· (first | exact rfl | (simp only [push_cast, reduceIte, Nat.reduceEqDiff, *]; done) | (simp only [push_cast, reduceIte, Nat.reduceEqDiff, *]; exact rfl))); (· (simp (disch := omega) only [push_cast, reduceIte, Nat.reduceEqDiff, beq_self_eq_true, bne_self_eq_false, Int.reduceBEq, Int.reduceBNe, Int.reduceLT, Int.reduceLE, Nat.reduceAdd, Nat.reduceMul, Nat.reduceSub, Int.reduceToNat, Nat.reducePow, Int.reducePow, *] <;> exact rfl)); (· (simp only [push_cast] <;> exact rfl)); (· (simp (disch := omega) only [push_cast, reduceIte, Nat.reduceEqDiff, Nat.reduceAdd] <;> exact rfl)))
                          · (apply ReF.fl; (· (apply Float.call; (· (exact rfl)); (· (exact rfl)); (· (simp (disch := omega) only [push_cast, reduceIte, Nat.reduceEqDiff, beq_self_eq_true, bne_self_eq_false, Int.reduceBEq, Int.reduceBNe, Int.reduceLT, Int.reduceLE, Nat.reduceAdd, Nat.reduceMul, Nat.reduceSub, Int.reduceToNat, Nat.reducePow, Int.reducePow, *] <;> exact rfl)); (· (exact en (by kernel_rfl))); (· (simp (disch := omega) only [push_cast, reduceIte, Nat.reduceEqDiff, beq_self_eq_true, bne_self_eq_false, Int.reduceBEq, Int.reduceBNe, Int.reduceLT, Int.reduceLE, Nat.reduceAdd, Nat.reduceMul, Nat.reduceSub, Int.reduceToNat, Nat.reducePow, Int.reducePow, *] <;> exact rfl)); exact f69s _ _ _ (hv.ov _ _) (by omega))))
                            (apply ReF.op; (· (simp (disch := omega) only [push_cast, reduceIte, Nat.reduceEqDiff, beq_self_eq_true, bne_self_eq_false, Int.reduceBEq, Int.reduceBNe, Int.reduceLT, Int.reduceLE, Nat.reduceAdd, Nat.reduceMul, Nat.reduceSub, Int.reduceToNat, Nat.reducePow, Int.reducePow, *] <;> exact rfl)))
                            exact ReF.nil
                          repeat (first | refine PL.w ?_ | refine PL.wk ?_ | refine PL.ew ?_ | refine PL.ewk ?_)
                          (apply PL.efcall; (· (first | exact rfl | (simp only [push_cast, reduceIte, Nat.reduceEqDiff, *]; done) | (simp only [push_cast, reduceIte, Nat.reduceEqDiff, *]; exact rfl))); (· (exact rfl)); (· (exact rfl)); (· (simp (disch := omega) only [push_cast, reduceIte, Nat.reduceEqDiff, beq_self_eq_true, bne_self_eq_false, Int.reduceBEq, Int.reduceBNe, Int.reduceLT, Int.reduceLE, Nat.reduceAdd, Nat.reduceMul, Nat.reduceSub, Int.reduceToNat, Nat.reducePow, Int.reducePow, *] <;> exact rfl)); (· (exact en (by kernel_rfl))); (· (simp (disch := omega) only [push_cast, reduceIte, Nat.reduceEqDiff, beq_self_eq_true, bne_self_eq_false, Int.reduceBEq, Int.reduceBNe, Int.reduceLT, Int.reduceLE, Nat.reduceAdd, Nat.reduceMul, Nat.reduceSub, Int.reduceToNat, Nat.reducePow, Int.reducePow, *] <;> exact rfl)))
                          · exact ih.out _ spv _ (l ++ [x]) _ hr (by omega) (by simp; omega) e5.out (hsp.ov _ _) (IsInts.atLoc (by decide) rfl (by simp) (.inl rfl))
                          · intro v' h' q
                            cases hvv : visL s k (l ++ [x]) with
                            | nil =>
                              rw [hvv] at q
                              obtain ⟨e, rfl⟩ := q
                              cases e
                              refine ⟨?_, ?_⟩
                              · repeat (first | exact ReF.nil | (refine ReF.dep (by exact rfl) ?_))
                              · refine PL.nil ?_
                                (try simp (disch := omega) only [qA])
                                ((repeat refine CWp.seq ?_); refine CWp.region ?_)
                                repeat (first | refine RL.w good ?_ | refine RL.k ?_)
                                refine RL.nil ?_
                                (try simp (disch := omega) only [qA])
                                refine next.out _ _ _ (by rw [hyes, hvv]; rfl) ?_ ?_ ?_ ?_ ?_ ?_ ?_
                                all_goals (first | exact rfl | simp only [push_cast, reduceIte, Nat.reduceEqDiff])
                            | cons l0 ls =>
                              rw [hvv] at q
                              obtain ⟨_, e, _⟩ := q
                              cases e
                          · intro v' h' q
                            cases hvv : visL s k (l ++ [x]) with
                            | nil =>
                              rw [hvv] at q
                              obtain ⟨e, _⟩ := q
                              cases e
                            | cons l0 ls =>
                              rw [hvv] at q
                              obtain ⟨v2, e, hm⟩ := q
                              cases e
                              (try simp (disch := omega) only [qA])
                              obtain ⟨τ, h3, v3, a, b, c⟩ := hm.fade En rfl
                              exact ⟨τ, h3, .iface 22 v3, a, ⟨_, rfl, b⟩, by rw [h2.out, hyes, hvv]; exact ⟨_, rfl, c⟩⟩
                        · intro hc; cases hc
                      · have hno := case2.out hh
                        simp only [push_cast]
                        repeat (first | refine RL.w good ?_ | refine RL.k ?_)
                        refine RL.nil ?_
                        (try simp (disch := omega) only [qA])
                        ((repeat refine CWp.seq ?_); refine CWp.cnd good ?_ ?_)
                        · intro hc; cases hc
                        · intro _
                          (refine CWp.skip ?_; (try simp (disch := omega) only [qA]))
                          ((repeat refine CWp.seq ?_); refine CWp.region ?_)
                          repeat (first | refine RL.w good ?_ | refine RL.k ?_)
                          refine RL.nil ?_
                          (try simp (disch := omega) only [qA])
                          refine next.out _ _ _ (by rw [hno]; rfl) ?_ ?_ ?_ ?_ ?_ ?_ ?_
                          all_goals (first | exact rfl | simp only [push_cast, reduceIte, Nat.reduceEqDiff])
                    · rintro v h' ⟨e, _⟩; cases e
                · have case5 := Hid.mk (case4.out hr)
                  clear case1 case3 case4
                  repeat (first | refine RL.w good ?_ | refine RL.k ?_)
                  (refine' RL.c good ?_ ?_ ?_; rotate_left)
                  · exact f65s _ _ _ _ (hsp.ov _ _) (by have := hso.sp; omega)
                  · rintro v' h' ⟨e, rfl⟩
                    cases e
                    cases hh : has s.spoilt x
                    · have hyes := case5.out hh
                      simp only [push_cast]
                      repeat (first | refine RL.w good ?_ | refine RL.k ?_)
                      refine RL.nil ?_
                      (try simp (disch := omega) only [qA])
                      ((repeat refine CWp.seq ?_); refine CWp.cnd good ?_ ?_)
                      · intro _
                        ((repeat refine CWp.seq ?_); refine CWp.drawI good (fun g => memN g [69]) [(0, true), (1, true), (2, true), (3, true), (6, true), (7, true), (8, true), (4, false), (5, false), (9, false)] (by kernel_rfl) (fun _ _ _ q => q) ?_)
                        repeat (first | refine PL.w ?_ | refine PL.wk ?_ | refine PL.ew ?_ | refine PL.ewk ?_)
                        (apply PL.flcall; (· (first | exact rfl | (simp only [push_cast, reduceIte, Nat.reduceEqDiff, *]; done) | (simp only [push_cast, reduceIte, Nat.reduceEqDiff, *]; exact rfl))); (· (exact rfl)); (· (exact rfl)); (· (simp (disch := omega) only [push_cast, reduceIte, Nat.reduceEqDiff, beq_self_eq_true, bne_self_eq_false, Int.reduceBEq, Int.reduceBNe, Int.reduceLT, Int.reduceLE, Nat.reduceAdd, Nat.reduceMul, Nat.reduceSub, Int.reduceToNat, Nat.reducePow, Int.reducePow, *] <;> exact rfl)); (· (exact en (by kernel_rfl))); (· (simp (disch := omega) only [push_cast, reduceIte, Nat.reduceEqDiff, beq_self_eq_true, bne_self_eq_false, Int.reduceBEq, Int.reduceBNe, Int.reduceLT, Int.reduceLE, Nat.reduceAdd, Nat.reduceMul, Nat.reduceSub, Int.reduceToNat, Nat.reducePow, Int.reducePow, *] <;> exact rfl)))
                        · exact f69s _ _ _ (hv.ov _ _) (by omega)
                        · simp only [push_cast] <;> exact rfl <;> exact rfl
                        repeat (first | refine PL.w ?_ | refine PL.wk ?_ | refine PL.ew ?_ | refine PL.ewk ?_)
                        (apply PL.ef; (· (first | exact rfl | (simp only [push_cast, reduceIte, Nat.reduceEqDiff, *]; done) | (simp only [push_cast, reduceIte, Nat.reduceEqDiff, *]; exact rfl))); (· (simp (disch := omega) only [push_cast, reduceIte, Nat.reduceEqDiff, beq_self_eq_true, bne_self_eq_false, Int.reduceBEq, Int.reduceBNe, Int.reduceLT, Int.reduceLE, Nat.reduceAdd, Nat.reduceMul, Nat.reduceSub, Int.reduceToNat, Nat.reducePow, Int.reducePow, *] <;> exact rfl)); (· (simp only [push_cast] <;> exact rfl)); (· (simp (disch := omega) only [push_cast, reduceIte, Nat.reduceEqDiff, Nat.reduceAdd] <;> exact rfl)))
                        · (apply ReF.fl; (· (apply Float.call; (· (exact rfl)); (· (exact rfl)); (· (simp (disch := omega) only [push_cast, reduceIte, Nat.reduceEqDiff, beq_self_eq_true, bne_self_eq_false, Int.reduceBEq, Int.reduceBNe, Int.reduceLT, Int.reduceLE, Nat.reduceAdd, Nat.reduceMul, Nat.reduceSub, Int.reduceToNat, Nat.reducePow, Int.reducePow, *] <;> exact rfl)); (· (exact en (by kernel_rfl))); (· (simp (disch := omega) only [push_cast, reduceIte, Nat.reduceEqDiff, beq_self_eq_true, bne_self_eq_false, Int.reduceBEq, Int.reduceBNe, Int.reduceLT, Int.reduceLE, Nat.reduceAdd, Nat.reduceMul, Nat.reduceSub, Int.reduceToNat, Nat.reducePow, Int.reducePow, *] <;> exact rfl)); exact f69s _ _ _ (hv.ov _ _) (by omega))))
                          (apply ReF.op; (· (simp (disch := omega) only [push_cast, reduceIte, Nat.reduceEqDiff, beq_self_eq_true, bne_self_eq_false, Int.reduceBEq, Int.reduceBNe, Int.reduceLT, Int.reduceLE, Nat.reduceAdd, Nat.reduceMul, Nat.reduceSub, Int.reduceToNat, Nat.reducePow, Int.reducePow, *] <;> exact rfl)))
                          exact ReF.nil
                        repeat (first | refine PL.w ?_ | refine PL.wk ?_ | refine PL.ew ?_ | refine PL.ewk ?_)
                        (apply PL.efcall; (· (first | exact rfl | (simp only [push_cast, reduceIte, Nat.reduceEqDiff, *]; done) | (simp only [push_cast, reduceIte, Nat.reduceEqDiff, *]; exact rfl))); (· (exact rfl)); (· (exact rfl)); (· (simp (disch := omega) only [push_cast, reduceIte, Nat.reduceEqDiff, beq_self_eq_true, bne_self_eq_false, Int.reduceBEq, Int.reduceBNe, Int.reduceLT, Int.reduceLE, Nat.reduceAdd, Nat.reduceMul, Nat.reduceSub, Int.reduceToNat, Nat.reducePow, Int.reducePow, *] <;> exact rfl)); (· (exact en (by kernel_rfl))); (· (simp (disch := omega) only [push_cast, reduceIte, Nat.reduceEqDiff, beq_self_eq_true, bne_self_eq_false, Int.reduceBEq, Int.reduceBNe, Int.reduceLT, Int.reduceLE, Nat.reduceAdd, Nat.reduceMul, Nat.reduceSub, Int.reduceToNat, Nat.reducePow, Int.reducePow, *] <;> exact rfl)))
                        · exact ih.out _ spv _ (l ++ [x]) _ hr (by omega) (by simp; omega) e5.out (hsp.ov _ _) (IsInts.atLoc (by decide) rfl (by simp) (.inl rfl))
                        · intro v' h' q
                          cases hvv : visL s k (l ++ [x]) with
                          | nil =>
                            rw [hvv] at q
                            obtain ⟨e, rfl⟩ := q
                            cases e
                            refine ⟨?_, ?_⟩
                            · repeat (first | exact ReF.nil | (refine ReF.dep (by exact rfl) ?_))
                            · refine PL.nil ?_
                              (try simp (disch := omega) only [qA])
                              ((repeat refine CWp.seq ?_); refine CWp.region ?_)
                              repeat (first | refine RL.w good ?_ | refine RL.k ?_)
                              refine RL.nil ?_
                              (try simp (disch := omega) only [qA])
                              refine next.out _ _ _ (by rw [hyes, hvv]; rfl) ?_ ?_ ?_ ?_ ?_ ?_ ?_
                              all_goals (first | exact rfl | simp only [push_cast, reduceIte, Nat.reduceEqDiff])
                          | cons l0 ls =>
                            rw [hvv] at q
                            obtain ⟨_, e, _⟩ := q
                            cases e
                        · intro v' h' q
                          cases hvv : visL s k (l ++ [x]) with
                          | nil =>
                            rw [hvv] at q
                            obtain ⟨e, _⟩ := q
                            cases e
                          | cons l0 ls =>
                            rw [hvv] at q
                            obtain ⟨v2, e, hm⟩ := q
                            cases e
                            (try simp (disch := omega) only [qA])
                            obtain ⟨τ, h3, v3, a, b, c⟩ := hm.fade En rfl
                            exact ⟨τ, h3, .iface 22 v3, a, ⟨_, rfl, b⟩, by rw [h2.out, hyes, hvv]; exact ⟨_, rfl, c⟩⟩
                      · intro hc; cases hc
                    · have hno := case2.out hh
                      simp only [push_cast]
                      repeat (first | refine RL.w good ?_ | refine RL.k ?_)
                      refine RL.nil ?_
                      (try simp (disch := omega) only [qA])
                      ((repeat refine CWp.seq ?_); refine CWp.cnd good ?_ ?_)
                      · intro hc; cases hc
                      · intro _
                        (refine CWp.skip ?_; (try simp (disch := omega) only [qA]))
                        ((repeat refine CWp.seq ?_); refine CWp.region ?_)
                        repeat (first | refine RL.w good ?_ | refine RL.k ?_)
                        refine RL.nil ?_
                        (try simp (disch := omega) only [qA])
                        refine next.out _ _ _ (by rw [hno]; rfl) ?_ ?_ ?_ ?_ ?_ ?_ ?_
                        all_goals (first | exact rfl | simp only [push_cast, reduceIte, Nat.reduceEqDiff])
                  · rintro v h' ⟨e, _⟩; cases e
            · rintro v h' ⟨e, _⟩; cases e
          · (intro hc; (try simp only [decide_eq_true_eq, decide_eq_false_iff_not, Bool.not_eq_true, Bool.not_eq_false, Int.not_lt, Int.not_le, bne_iff_ne, beq_iff_eq, ne_eq, Bool.not_eq_eq_eq_not, Bool.not_true, Bool.not_false] at hc))
            have hn : (M - l.getD (l.length - 1) 0).toNat - i = 0 := by omega
            rw [hn] at h2
            rw [show visL s (k + 1) l = [] from h2]
            (refine CWp.exit ?_; (try simp (disch := omega) only [qA]))
            ((try simp (disch := omega) only [qA]); refine nmB ?_; (try simp only [oneV]))
            exact EndB.plain En rfl ⟨rfl, rfl⟩
end Go.Ab
