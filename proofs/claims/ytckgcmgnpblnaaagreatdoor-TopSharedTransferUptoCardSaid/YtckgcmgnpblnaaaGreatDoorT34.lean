/- A part of the proof of a law over a given program: T11. -/
import Derived.Test.YtckgcmgnpblnaaaGreatDoorT33
set_option linter.unusedVariables false
set_option linter.unusedSimpArgs false
namespace Go.Ab
open Go.Proofs
set_option maxRecDepth 10000
theorem ov_setC {H : Hp} {U2 L2 : List (Nat × AObj)} {k2 i : Nat} {o : AObj} (hi : i < H.next) (hU : lk U2 i = none) : ov H ((i, o) :: U2) L2 k2 = ov (H.set i o) U2 L2 k2 := by
  have hl : ∀ a, loc (H.set i o) a = loc H a := fun a => by unfold loc; rfl
  refine Hp.ext' (fun x => ?_) (by rw [ov_next, ov_next, hl])
  by_cases hx : x < H.next
  · rw [ov_low hx, ov_low (h := H.set i o) hx]
    simp only [lk, Hp.get_set]
    by_cases e : i = x
    · subst e
      rw [hU]
      simp
    · rw [if_neg e]
      cases lk U2 x with
      | some o => rfl
      | none => simp only; rw [if_neg (fun q => e q.symm)]
  · obtain ⟨a, rfl⟩ : ∃ a, x = loc H a := ⟨x - H.next, by unfold loc; omega⟩
    rw [ov_loc, ← hl, ov_loc]
theorem ov_updC {h : Hp} {U L U2 L2 : List (Nat × AObj)} {k k2 j : Nat} {o : AObj} (hb : below k L = true) (hj : j < k) (hU : lk U2 (loc h j) = none) : ov (ov h U L k) ((loc h j, o) :: U2) L2 k2 = ov (ov h U (upd L j o) k) U2 L2 k2 := by
  rw [← set_loc]
  exact ov_setC (by rw [ov_next, loc_lt]; exact hj) hU
abbrev chT (n : Int) (h : Hp) (i : Nat) : Nat → Value := tl [(0, .int .i64 n), (3, .pointer (some ⟨loc h 0, 0, none⟩)), (4, .pointer (some ⟨loc h 1, 0, none⟩)), (5, .pointer (some ⟨loc h 2, 0, none⟩)), (16, .int .i64 i)]
abbrev chH (h : Hp) (a b : Int) : Option (List Int × Nat × Nat × Int) → Hp
  | none => ov h [] [(0, .cells [.int .i64 a, .int .i64 b] false 24), (1, .cells [.slice none 0 0] false 22), (2, .cells [.int .i64 0] false 3)] 3
  | some (l, m, c, co) => ov h [] [(0, .cells [.int .i64 a, .int .i64 b] false 24), (1, .cells [.slice (some ⟨loc h 3, 0, none⟩) m c] false 22), (2, .cells [.int .i64 co] false 3), (3, .cells (ints l) false 3)] 4
def ChpPost (h : Hp) (e : AEnd) (h' : Hp) : Prop := ∃ l v c n, e = .ret (.tuple #[v, .int .i64 c, .int .i64 n]) ∧ MadeInts h l v h' ∧ l.length ≤ 1000
set_option maxHeartbeats 8000000 in
theorem f31s (n a b : Int) (h : Hp) : ACalls Tryz.prog 31 [.int .i64 n, .agg #[.int .i64 a, .int .i64 b]] (ChpPost h) h := by
  (refine ACalls.bodyB (fn := Tryz.f31) (ng := 4) (N := 28) (res := [.cell 4 22, .cell 5 3, .tmp 6]) (by kernel_rfl) rfl rfl rfl (by kernel_rfl) (fun En hs => ?_); simp only [argsL, Nat.reduceAdd])
  clear hs
  ((repeat refine CWp.seq ?_); refine CWp.region ?_)
  repeat (first | refine RL.w good ?_ | refine RL.k ?_)
  refine RL.nil ?_
  (try simp (disch := omega) only [qA])
  ((repeat refine CWp.seq ?_); refine CWp.region ?_)
  repeat (first | refine RL.w good ?_ | refine RL.k ?_)
  (refine' RL.c good ?_ ?_ ?_; rotate_left)
  · exact f41s _ _ _ _
  · rintro v' h' ⟨e, rfl⟩
    cases e
    simp only [push_cast]
    cases hb : btw 1 n 46
    · repeat (first | refine RL.w good ?_ | refine RL.k ?_)
      refine RL.nil ?_
      (try simp (disch := omega) only [qA])
      ((repeat refine CWp.seq ?_); refine CWp.cnd good ?_ ?_)
      · intro _
        ((repeat refine CWp.seq ?_); refine CWp.region ?_)
        repeat (first | refine RL.w good ?_ | refine RL.k ?_)
        refine RL.nil ?_
        (try simp (disch := omega) only [qA])
        (refine CWp.ret ?_; (try simp (disch := omega) only [qA]); refine rtB ?_; (try simp only [oneV]))
        exact EndB.plain En rfl ⟨[], _, _, _, rfl, .inl ⟨rfl, rfl, rfl⟩, by simp⟩
      · intro hc; cases hc
    · have hn2 := btw_spec hb
      repeat (first | refine RL.w good ?_ | refine RL.k ?_)
      (refine' RL.c good ?_ ?_ ?_; rotate_left)
      · exact f48s _ _ _
      · rintro v' h' ⟨e, rfl⟩
        cases e
        simp only [push_cast]
        cases hg : (btw 0 a 1000 && btw 0 b 1000)
        · repeat (first | refine RL.w good ?_ | refine RL.k ?_)
          refine RL.nil ?_
          (try simp (disch := omega) only [qA])
          ((repeat refine CWp.seq ?_); refine CWp.cnd good ?_ ?_)
          · intro _
            ((repeat refine CWp.seq ?_); refine CWp.region ?_)
            repeat (first | refine RL.w good ?_ | refine RL.k ?_)
            refine RL.nil ?_
            (try simp (disch := omega) only [qA])
            (refine CWp.ret ?_; (try simp (disch := omega) only [qA]); refine rtB ?_; (try simp only [oneV]))
            exact EndB.plain En rfl ⟨[], _, _, _, rfl, .inl ⟨rfl, rfl, rfl⟩, by simp⟩
          · intro hc; cases hc
        · obtain ⟨g1, g2⟩ := Bool.and_eq_true_iff.1 hg
          have hp1 := btw_spec g1
          have hp2 := btw_spec g2
          repeat (first | refine RL.w good ?_ | refine RL.k ?_)
          refine RL.nil ?_
          (try simp (disch := omega) only [qA])
          ((repeat refine CWp.seq ?_); refine CWp.cnd good ?_ ?_)
          · intro hc; cases hc
          · intro _
            (refine CWp.skip ?_; (try simp (disch := omega) only [qA]))
            ((repeat refine CWp.seq ?_); refine CWp.region ?_)
            repeat (first | refine RL.w good ?_ | refine RL.k ?_)
            refine RL.nil ?_
            (try simp (disch := omega) only [qA])
            ((repeat refine CWp.seq ?_); refine CWp.block ?_)
            refine CWp.loop (fun (s : Nat × Option (List Int × Nat × Nat × Int)) => (chT n h s.1, chH h a b s.2)) (fun s => 8 - s.1) (fun s => s.1 ≤ 8 ∧ vsI s.2) (0, none) ⟨by omega, trivial⟩ ?_ ?_
            · dsimp only [chT, chH]
              ((try dsimp only); apply fades_to En [(0, 0), (1, 1), (2, 2)]; (· (repeat (refine And.intro ?_ ?_; (· ((try simp only [push_cast, reduceIte, Nat.reduceEqDiff, *]) <;> first | exact rfl | exact SV.fv En (by assumption) | exact ⟨_, rfl, Rn_loc ⟨_, rfl⟩ rfl, rfl, rfl⟩ | exact ⟨_, _, rfl, rfl, rfl⟩ | exact congrArg (Value.int _) (by omega))))) <;> exact trivial); (· exact trivial); (· exact trivial); (· (repeat (refine And.intro ⟨by decide, _, _, rfl, rfl, ?_⟩ ?_; (· (first | exact ⟨_, rfl, flatsFV rfl⟩ | exact ⟨_, rfl, intsFVL _⟩ | (refine ⟨_, rfl, ?_⟩; (repeat (refine ⟨_, _, rfl, ?_, ?_⟩; (· (first | exact rfl | exact SV.fv En (by assumption) | exact ⟨_, rfl, Rn_loc ⟨_, rfl⟩ rfl, rfl, rfl⟩ | exact ⟨_, _, rfl, rfl, rfl⟩ | exact congrArg (Value.int _) (by omega))))); exact rfl))))) <;> exact trivial); (· exact rfl))
            rintro ⟨i, st⟩ ⟨h1, h2⟩
            dsimp only at h1 h2 ⊢
            rcases st with _ | ⟨l0, n0, c0, co0⟩
            · dsimp only [chT, chH]
              ((repeat refine CWp.seq ?_); refine CWp.region ?_)
              repeat (first | refine RL.w good ?_ | refine RL.k ?_)
              refine RL.nil ?_
              (try simp (disch := omega) only [qA])
              ((repeat refine CWp.seq ?_); refine CWp.cnd good ?_ ?_)
              · (intro hc; (try simp only [decide_eq_true_eq, decide_eq_false_iff_not, Bool.not_eq_true, Bool.not_eq_false, Int.not_lt, Int.not_le, bne_iff_ne, beq_iff_eq, ne_eq, Bool.not_eq_eq_eq_not, Bool.not_true, Bool.not_false] at hc))
                (refine CWp.skip ?_; (try simp (disch := omega) only [qA]))
                ((repeat refine CWp.seq ?_); refine CWp.block ?_)
                ((repeat refine CWp.seq ?_); refine CWp.region ?_)
                repeat (first | refine RL.w good ?_ | refine RL.k ?_)
                refine RL.nil ?_
                (try simp (disch := omega) only [qA])
                ((repeat refine CWp.seq ?_); refine CWp.region ?_)
                repeat (first | refine RL.w good ?_ | refine RL.k ?_)
                (refine' RL.c good ?_ ?_ ?_; rotate_left)
                · exact visit_state n hn2 (loc h 0) (loc h 1) (loc h 2) a b i _ _ [1] (.slice none 0 0) 0 (by omega) (by simp; omega) ⟨by simp, by simp, fun j => by
                    cases j with
                    | zero => simp
                    | succ j => simp⟩ (IsInts.atLoc (by decide) rfl rfl (.inr ⟨by unfold U; omega, by simp⟩)) (fun x y z e => by cases e; exact fun q => by rw [loc_inj] at q; cases q) (fun x y z e => by cases e; exact fun q => by rw [loc_inj] at q; cases q)
                    ⟨by rw [ov_next, loc_lt]; omega, by rw [ov_next, loc_lt]; omega, by rw [ov_next, loc_lt]; omega, by rw [ov_loc]; rfl, by rw [ov_loc]; rfl, by rw [ov_loc]; rfl, .inl rfl, hp1, hp2⟩
                · rintro v' h' ⟨e, hup⟩
                  cases e
                  rcases hup with rfl | ⟨l3, n3, c3, co3, g1, g2, g3, g4, rfl⟩
                  · refine RL.nil ?_
                    (try simp (disch := omega) only [qA])
                    ((repeat refine CWp.seq ?_); refine CWp.region ?_)
                    repeat (first | refine RL.w good ?_ | refine RL.k ?_)
                    refine RL.nil ?_
                    (try simp (disch := omega) only [qA])
                    refine ⟨(i + 1, none), ⟨by (try dsimp only); omega, trivial⟩, by (try dsimp only); omega, ?_⟩
                    dsimp only [chT, chH]
                    ((try dsimp only); apply fades_to En [(0, 0), (1, 1), (2, 2)]; (· (repeat (refine And.intro ?_ ?_; (· ((try simp only [push_cast, reduceIte, Nat.reduceEqDiff, *]) <;> first | exact rfl | exact SV.fv En (by assumption) | exact ⟨_, rfl, Rn_loc ⟨_, rfl⟩ rfl, rfl, rfl⟩ | exact ⟨_, _, rfl, rfl, rfl⟩ | exact congrArg (Value.int _) (by omega))))) <;> exact trivial); (· exact trivial); (· exact trivial); (· (repeat (refine And.intro ⟨by decide, _, _, rfl, rfl, ?_⟩ ?_; (· (first | exact ⟨_, rfl, flatsFV rfl⟩ | exact ⟨_, rfl, intsFVL _⟩ | (refine ⟨_, rfl, ?_⟩; (repeat (refine ⟨_, _, rfl, ?_, ?_⟩; (· (first | exact rfl | exact SV.fv En (by assumption) | exact ⟨_, rfl, Rn_loc ⟨_, rfl⟩ rfl, rfl, rfl⟩ | exact ⟨_, _, rfl, rfl, rfl⟩ | exact congrArg (Value.int _) (by omega))))); exact rfl))))) <;> exact trivial); (· exact rfl))
                  · rw [ov_updC rfl (by decide) (by simp only [lk]; rw [if_neg (fun q => by rw [loc_inj] at q; cases q)]), ov_updC rfl (by decide) rfl, ov_ov rfl, loc_ov]
                    replace g4 := Hid.mk g4
                    refine RL.nil ?_
                    (try simp (disch := omega) only [qA])
                    ((repeat refine CWp.seq ?_); refine CWp.region ?_)
                    repeat (first | refine RL.w good ?_ | refine RL.k ?_)
                    refine RL.nil ?_
                    (try simp (disch := omega) only [qA])
                    refine ⟨(i + 1, some (l3, n3, c3, co3)), ⟨by (try dsimp only); omega, ⟨g1, g2, g3, g4.out⟩⟩, by (try dsimp only); omega, ?_⟩
                    dsimp only [chT, chH]
                    ((try dsimp only); apply fades_to En [(0, 0), (1, 1), (2, 2), (3, 4)]; (· (repeat (refine And.intro ?_ ?_; (· ((try simp only [push_cast, reduceIte, Nat.reduceEqDiff, *]) <;> first | exact rfl | exact SV.fv En (by assumption) | exact ⟨_, rfl, Rn_loc ⟨_, rfl⟩ rfl, rfl, rfl⟩ | exact ⟨_, _, rfl, rfl, rfl⟩ | exact congrArg (Value.int _) (by omega))))) <;> exact trivial); (· exact trivial); (· exact trivial); (· (repeat (refine And.intro ⟨by decide, _, _, rfl, rfl, ?_⟩ ?_; (· (first | exact ⟨_, rfl, flatsFV rfl⟩ | exact ⟨_, rfl, intsFVL _⟩ | (refine ⟨_, rfl, ?_⟩; (repeat (refine ⟨_, _, rfl, ?_, ?_⟩; (· (first | exact rfl | exact SV.fv En (by assumption) | exact ⟨_, rfl, Rn_loc ⟨_, rfl⟩ rfl, rfl, rfl⟩ | exact ⟨_, _, rfl, rfl, rfl⟩ | exact congrArg (Value.int _) (by omega))))); exact rfl))))) <;> exact trivial); (· exact rfl))
                · rintro v' h' ⟨e, _⟩; cases e
              · (intro hc; (try simp only [decide_eq_true_eq, decide_eq_false_iff_not, Bool.not_eq_true, Bool.not_eq_false, Int.not_lt, Int.not_le, bne_iff_ne, beq_iff_eq, ne_eq, Bool.not_eq_eq_eq_not, Bool.not_true, Bool.not_false] at hc))
                (refine CWp.exit ?_; (try simp (disch := omega) only [qA]))
                ((repeat refine CWp.seq ?_); refine CWp.drawI good (fun g => memN g []) [(0, true), (1, true), (2, false), (3, false), (4, true)] (by kernel_rfl) (fun _ _ _ q => q) ?_)
                repeat (first | refine PL.w ?_ | refine PL.wk ?_ | refine PL.ew ?_ | refine PL.ewk ?_)
                refine PL.nil ?_
                (try simp (disch := omega) only [qA])
                (refine CWp.ret ?_; (try simp (disch := omega) only [qA]); refine rtB ?_; (try simp only [oneV]))
                exact EndB.plain En rfl ⟨[], _, _, _, rfl, .inl ⟨rfl, rfl, rfl⟩, by simp⟩

            · obtain ⟨rfl, s2, s3, s4⟩ := h2
              replace s4 := Hid.mk s4
              dsimp only [chT, chH]
              ((repeat refine CWp.seq ?_); refine CWp.region ?_)
              repeat (first | refine RL.w good ?_ | refine RL.k ?_)
              refine RL.nil ?_
              (try simp (disch := omega) only [qA])
              ((repeat refine CWp.seq ?_); refine CWp.cnd good ?_ ?_)
              · (intro hc; (try simp only [decide_eq_true_eq, decide_eq_false_iff_not, Bool.not_eq_true, Bool.not_eq_false, Int.not_lt, Int.not_le, bne_iff_ne, beq_iff_eq, ne_eq, Bool.not_eq_eq_eq_not, Bool.not_true, Bool.not_false] at hc))
                (refine CWp.skip ?_; (try simp (disch := omega) only [qA]))
                ((repeat refine CWp.seq ?_); refine CWp.block ?_)
                ((repeat refine CWp.seq ?_); refine CWp.region ?_)
                repeat (first | refine RL.w good ?_ | refine RL.k ?_)
                refine RL.nil ?_
                (try simp (disch := omega) only [qA])
                ((repeat refine CWp.seq ?_); refine CWp.region ?_)
                repeat (first | refine RL.w good ?_ | refine RL.k ?_)
                (refine' RL.c good ?_ ?_ ?_; rotate_left)
                · exact visit_state n hn2 (loc h 0) (loc h 1) (loc h 2) a b i _ _ [1] (.slice (some ⟨loc h 3, 0, none⟩) l0.length c0) co0 (by omega) (by simp; omega) ⟨by simp, by simp, fun j => by
                    cases j with
                    | zero => simp
                    | succ j => simp⟩ (IsInts.atLoc (by decide) rfl rfl (.inr ⟨by unfold U; omega, by simp⟩)) (fun x y z e => by cases e; exact fun q => by rw [loc_inj] at q; cases q) (fun x y z e => by cases e; exact fun q => by rw [loc_inj] at q; cases q)
                    ⟨by rw [ov_next, loc_lt]; omega, by rw [ov_next, loc_lt]; omega, by rw [ov_next, loc_lt]; omega, by rw [ov_loc]; rfl, by rw [ov_loc]; rfl, by rw [ov_loc]; rfl, .inr ⟨_, _, _, rfl⟩, hp1, hp2⟩
                · rintro v' h' ⟨e, hup⟩
                  cases e
                  rcases hup with rfl | ⟨l3, n3, c3, co3, g1, g2, g3, g4, rfl⟩
                  · refine RL.nil ?_
                    (try simp (disch := omega) only [qA])
                    ((repeat refine CWp.seq ?_); refine CWp.region ?_)
                    repeat (first | refine RL.w good ?_ | refine RL.k ?_)
                    refine RL.nil ?_
                    (try simp (disch := omega) only [qA])
                    refine ⟨(i + 1, some (l0, l0.length, c0, co0)), ⟨by (try dsimp only); omega, ⟨rfl, s2, s3, s4.out⟩⟩, by (try dsimp only); omega, ?_⟩
                    dsimp only [chT, chH]
                    ((try dsimp only); apply fades_to En [(0, 0), (1, 1), (2, 2), (3, 3)]; (· (repeat (refine And.intro ?_ ?_; (· ((try simp only [push_cast, reduceIte, Nat.reduceEqDiff, *]) <;> first | exact rfl | exact SV.fv En (by assumption) | exact ⟨_, rfl, Rn_loc ⟨_, rfl⟩ rfl, rfl, rfl⟩ | exact ⟨_, _, rfl, rfl, rfl⟩ | exact congrArg (Value.int _) (by omega))))) <;> exact trivial); (· exact trivial); (· exact trivial); (· (repeat (refine And.intro ⟨by decide, _, _, rfl, rfl, ?_⟩ ?_; (· (first | exact ⟨_, rfl, flatsFV rfl⟩ | exact ⟨_, rfl, intsFVL _⟩ | (refine ⟨_, rfl, ?_⟩; (repeat (refine ⟨_, _, rfl, ?_, ?_⟩; (· (first | exact rfl | exact SV.fv En (by assumption) | exact ⟨_, rfl, Rn_loc ⟨_, rfl⟩ rfl, rfl, rfl⟩ | exact ⟨_, _, rfl, rfl, rfl⟩ | exact congrArg (Value.int _) (by omega))))); exact rfl))))) <;> exact trivial); (· exact rfl))
                  · rw [ov_updC rfl (by decide) (by simp only [lk]; rw [if_neg (fun q => by rw [loc_inj] at q; cases q)]), ov_updC rfl (by decide) rfl, ov_ov rfl, loc_ov]
                    replace g4 := Hid.mk g4
                    refine RL.nil ?_
                    (try simp (disch := omega) only [qA])
                    ((repeat refine CWp.seq ?_); refine CWp.region ?_)
                    repeat (first | refine RL.w good ?_ | refine RL.k ?_)
                    refine RL.nil ?_
                    (try simp (disch := omega) only [qA])
                    refine ⟨(i + 1, some (l3, n3, c3, co3)), ⟨by (try dsimp only); omega, ⟨g1, g2, g3, g4.out⟩⟩, by (try dsimp only); omega, ?_⟩
                    dsimp only [chT, chH]
                    ((try dsimp only); apply fades_to En [(0, 0), (1, 1), (2, 2), (3, 5)]; (· (repeat (refine And.intro ?_ ?_; (· ((try simp only [push_cast, reduceIte, Nat.reduceEqDiff, *]) <;> first | exact rfl | exact SV.fv En (by assumption) | exact ⟨_, rfl, Rn_loc ⟨_, rfl⟩ rfl, rfl, rfl⟩ | exact ⟨_, _, rfl, rfl, rfl⟩ | exact congrArg (Value.int _) (by omega))))) <;> exact trivial); (· exact trivial); (· exact trivial); (· (repeat (refine And.intro ⟨by decide, _, _, rfl, rfl, ?_⟩ ?_; (· (first | exact ⟨_, rfl, flatsFV rfl⟩ | exact ⟨_, rfl, intsFVL _⟩ | (refine ⟨_, rfl, ?_⟩; (repeat (refine ⟨_, _, rfl, ?_, ?_⟩; (· (first | exact rfl | exact SV.fv En (by assumption) | exact ⟨_, rfl, Rn_loc ⟨_, rfl⟩ rfl, rfl, rfl⟩ | exact ⟨_, _, rfl, rfl, rfl⟩ | exact congrArg (Value.int _) (by omega))))); exact rfl))))) <;> exact trivial); (· exact rfl))
                · rintro v' h' ⟨e, _⟩; cases e
              · (intro hc; (try simp only [decide_eq_true_eq, decide_eq_false_iff_not, Bool.not_eq_true, Bool.not_eq_false, Int.not_lt, Int.not_le, bne_iff_ne, beq_iff_eq, ne_eq, Bool.not_eq_eq_eq_not, Bool.not_true, Bool.not_false] at hc))
                (refine CWp.exit ?_; (try simp (disch := omega) only [qA]))
                ((repeat refine CWp.seq ?_); refine CWp.drawI good (fun g => memN g []) [(0, true), (1, true), (2, false), (3, false), (4, true)] (by kernel_rfl) (fun _ _ _ q => q) ?_)
                repeat (first | refine PL.w ?_ | refine PL.wk ?_ | refine PL.ew ?_ | refine PL.ewk ?_)
                refine PL.nil ?_
                (try simp (disch := omega) only [qA])
                (refine CWp.ret ?_; (try simp (disch := omega) only [qA]); refine rtB ?_; (try simp only [oneV]))
                exact ⟨tau h [(0, 3)], ov h [] [(0, .cells (ints l0) false 3)] 1, .tuple #[.slice (some ⟨loc h 0, 0, none⟩) l0.length c0, .int .i64 co0, .int .i64 0], fades_ov En [(0, 3)] trivial trivial ⟨⟨by omega, 3, _, rfl, rfl, ⟨_, rfl, intsFVL l0⟩⟩, trivial⟩ rfl, ⟨_, rfl, ⟨_, _, rfl, ⟨⟨loc h 3, 0, none⟩, rfl, (show Rn h [] [(0, .cells (ints l0) false 3)] 1 [(0, 3)] (loc h 0) (loc h 3) from Rn_loc ⟨_, rfl⟩ rfl), rfl, rfl⟩, flatsFV rfl⟩⟩, l0, _, co0, 0, rfl, .inr ⟨c0, rfl, rfl, s4.out⟩, by omega⟩

      · rintro v h' ⟨e, _⟩; cases e
  · rintro v h' ⟨e, _⟩; cases e
end Go.Ab
