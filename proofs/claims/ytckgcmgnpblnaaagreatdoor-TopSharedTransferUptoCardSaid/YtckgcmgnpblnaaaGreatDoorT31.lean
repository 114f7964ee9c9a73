/- A part of the proof of a law over a given program: T6, T7. -/
import Derived.Test.YtckgcmgnpblnaaaGreatDoorT26
set_option linter.unusedVariables false
set_option linter.unusedSimpArgs false
namespace Go.Ab
open Go.Proofs
set_option maxRecDepth 10000
/-- what is known of a chain that is good -/
structure Chk (l : List Int) : Prop where
  pos : 0 < l.length
  len : l.length ≤ 20
  sm : Small l
def ChkPost (l : List Int) (h : Hp) (e : AEnd) (h' : Hp) : Prop := ∃ n, e = .ret (.int .i64 n) ∧ (n = 0 → Chk l) ∧ h' = h
theorem small_of {l : List Int} (h : ∀ j : Nat, j < l.length → 1 ≤ l.getD j 0 ∧ l.getD j 0 ≤ 46) : Small l := fun j => by
  by_cases hj : j < l.length
  · have := h j hj; omega
  · have : l.getD j 0 = 0 := by simp only [List.getD_eq_getElem?_getD]; rw [List.getElem?_eq_none (by omega)]; rfl
    omega
theorem ChkPost.bad {l : List Int} {h : Hp} {P : Program} (En : Entry P h) {L : List (Nat × AObj)} {k : Nat} {n : Int} (hn : n ≠ 0) : EndB P h (ChkPost l h) (.ret (.int .i64 n)) (ov h [] L k) := EndB.plain En rfl ⟨n, rfl, fun e => absurd e hn, rfl⟩
set_option maxHeartbeats 4000000 in
theorem f8s (v : Value) (l : List Int) (h : Hp) (hv : IsInts h v l) (hl : l.length ≤ 1000000) : ACalls Tryz.prog 8 [v] (ChkPost l h) h := by
  have hlen := hv.len
  have hidx := hv.idx
  have hld := hv.ld
  (refine ACalls.bodyB (fn := Tryz.f8) (ng := 4) (N := 58) (res := [.tmp 2]) (by kernel_rfl) rfl rfl rfl (by kernel_rfl) (fun En hs => ?_); simp only [argsL, Nat.reduceAdd])
  have sv := hv.sv
  clear hs
  ((repeat refine CWp.seq ?_); refine CWp.region ?_)
  repeat (first | refine RL.w good ?_ | refine RL.k ?_)
  refine RL.nil ?_
  ((repeat refine CWp.seq ?_); refine CWp.block ?_)
  ((repeat refine CWp.seq ?_); refine CWp.region ?_)
  repeat (first | refine RL.w good ?_ | refine RL.k ?_)
  refine RL.nil ?_
  (try simp (disch := omega) only [qA])
  ((repeat refine CWp.seq ?_); refine CWp.cnd good ?_ ?_)
  · intro _
    ((repeat refine CWp.seq ?_); refine CWp.region ?_)
    repeat (first | refine RL.w good ?_ | refine RL.k ?_)
    refine RL.nil ?_
    (try simp (disch := omega) only [qA])
    (refine CWp.ret ?_; (try simp (disch := omega) only [qA]); refine rtB ?_; (try simp only [oneV]))
    exact ChkPost.bad En (by decide)
  · intro hc0
    have hpos : 0 < l.length := by rw [beq_eq_false_iff_ne] at hc0; omega
    replace hc0 := Hid.mk hc0
    ((repeat refine CWp.seq ?_); refine CWp.region ?_)
    repeat (first | refine RL.w good ?_ | refine RL.k ?_)
    refine RL.nil ?_
    (try simp (disch := omega) only [qA])
    ((repeat refine CWp.seq ?_); refine CWp.cnd good ?_ ?_)
    · intro _
      ((repeat refine CWp.seq ?_); refine CWp.region ?_)
      repeat (first | refine RL.w good ?_ | refine RL.k ?_)
      refine RL.nil ?_
      (try simp (disch := omega) only [qA])
      (refine CWp.ret ?_; (try simp (disch := omega) only [qA]); refine rtB ?_; (try simp only [oneV]))
      exact ChkPost.bad En (by decide)
    · (intro hc; (try simp only [decide_eq_true_eq, decide_eq_false_iff_not, Bool.not_eq_true, Bool.not_eq_false, Int.not_lt, Int.not_le, bne_iff_ne, beq_iff_eq, ne_eq, Bool.not_eq_eq_eq_not, Bool.not_true, Bool.not_false] at hc))
      (refine CWp.skip ?_; (try simp (disch := omega) only [qA]))
      ((repeat refine CWp.seq ?_); refine CWp.region ?_)
      repeat (first | refine RL.w good ?_ | refine RL.k ?_)
      refine RL.nil ?_
      (try simp (disch := omega) only [qA])
      ((repeat refine CWp.seq ?_); refine CWp.region ?_)
      repeat (first | refine RL.w good ?_ | refine RL.k ?_)
      refine RL.nil ?_
      (try simp (disch := omega) only [qA])
      ((repeat refine CWp.seq ?_); refine CWp.block ?_)
      refine CWp.loop (fun (s : Nat × Int) => (tl [(0, v), (3, .int .i64 s.2), (18, v), (19, .int .i64 l.length), (20, .int .i64 s.1)], ov h [] [] 0)) (fun s => l.length - s.1)
        (fun s => s.1 ≤ l.length ∧ (∀ j : Nat, j < s.1 → 1 ≤ l.getD j 0 ∧ l.getD j 0 ≤ 46)) (0, 0) ⟨by omega, fun j hj => by omega⟩ ?_ ?_
      · ((try dsimp only); apply fades_to En []; (· (repeat (refine And.intro ?_ ?_; (· ((try simp only [push_cast, reduceIte, Nat.reduceEqDiff, *]) <;> first | exact rfl | exact SV.fv En (by assumption) | exact ⟨_, rfl, Rn_loc ⟨_, rfl⟩ rfl, rfl, rfl⟩ | exact ⟨_, _, rfl, rfl, rfl⟩ | exact congrArg (Value.int _) (by omega))))) <;> exact trivial); (· exact trivial); (· exact trivial); (· (repeat (refine And.intro ⟨by decide, _, _, rfl, rfl, ?_⟩ ?_; (· (first | exact ⟨_, rfl, flatsFV rfl⟩ | exact ⟨_, rfl, intsFVL _⟩ | (refine ⟨_, rfl, ?_⟩; (repeat (refine ⟨_, _, rfl, ?_, ?_⟩; (· (first | exact rfl | exact SV.fv En (by assumption) | exact ⟨_, rfl, Rn_loc ⟨_, rfl⟩ rfl, rfl, rfl⟩ | exact ⟨_, _, rfl, rfl, rfl⟩ | exact congrArg (Value.int _) (by omega))))); exact rfl))))) <;> exact trivial); (· exact rfl))
      · rintro ⟨i, last⟩ ⟨h1, h2⟩
        dsimp only at h1 h2 ⊢
        replace h2 := Hid.mk h2
        ((repeat refine CWp.seq ?_); refine CWp.region ?_)
        repeat (first | refine RL.w good ?_ | refine RL.k ?_)
        refine RL.nil ?_
        (try simp (disch := omega) only [qA])
        ((repeat refine CWp.seq ?_); refine CWp.cnd good ?_ ?_)
        · (intro hc; (try simp only [decide_eq_true_eq, decide_eq_false_iff_not, Bool.not_eq_true, Bool.not_eq_false, Int.not_lt, Int.not_le, bne_iff_ne, beq_iff_eq, ne_eq, Bool.not_eq_eq_eq_not, Bool.not_true, Bool.not_false] at hc))
          (refine CWp.skip ?_; (try simp (disch := omega) only [qA]))
          ((repeat refine CWp.seq ?_); refine CWp.block ?_)
          ((repeat refine CWp.seq ?_); refine CWp.region ?_)
          repeat (first | refine RL.w good ?_ | refine RL.k ?_)
          refine RL.nil ?_
          (try simp (disch := omega) only [qA])
          ((repeat refine CWp.seq ?_); refine CWp.block ?_)
          ((repeat refine CWp.seq ?_); refine CWp.region ?_)
          repeat (first | refine RL.w good ?_ | refine RL.k ?_)
          (refine' RL.c good ?_ ?_ ?_; rotate_left)
          · exact f41s _ _ _ _
          · rintro v' h' ⟨e, rfl⟩
            cases e
            simp only [push_cast]
            cases hb : btw 1 (l.getD i 0) 46
            · repeat (first | refine RL.w good ?_ | refine RL.k ?_)
              refine RL.nil ?_
              (try simp (disch := omega) only [qA])
              ((repeat refine CWp.seq ?_); refine CWp.cnd good ?_ ?_)
              · intro _
                ((repeat refine CWp.seq ?_); refine CWp.region ?_)
                repeat (first | refine RL.w good ?_ | refine RL.k ?_)
                refine RL.nil ?_
                (try simp (disch := omega) only [qA])
                (refine CWp.ret ?_; (try simp (disch := omega) only [qA]); refine rtB ?_; (try simp only [oneV]))
                exact ChkPost.bad En (by decide)
              · intro hc; cases hc
            · have hb2 := btw_spec hb
              repeat (first | refine RL.w good ?_ | refine RL.k ?_)
              refine RL.nil ?_
              (try simp (disch := omega) only [qA])
              ((repeat refine CWp.seq ?_); refine CWp.cnd good ?_ ?_)
              · intro hc; cases hc
              · intro _
                ((repeat refine CWp.seq ?_); refine CWp.region ?_)
                repeat (first | refine RL.w good ?_ | refine RL.k ?_)
                refine RL.nil ?_
                (try simp (disch := omega) only [qA])
                ((repeat refine CWp.seq ?_); refine CWp.cnd good ?_ ?_)
                · intro _
                  ((repeat refine CWp.seq ?_); refine CWp.region ?_)
                  repeat (first | refine RL.w good ?_ | refine RL.k ?_)
                  refine RL.nil ?_
                  (try simp (disch := omega) only [qA])
                  (refine CWp.ret ?_; (try simp (disch := omega) only [qA]); refine rtB ?_; (try simp only [oneV]))
                  exact ChkPost.bad En (by decide)
                · intro _
                  (refine CWp.skip ?_; (try simp (disch := omega) only [qA]))
                  ((repeat refine CWp.seq ?_); refine CWp.region ?_)
                  repeat (first | refine RL.w good ?_ | refine RL.k ?_)
                  refine RL.nil ?_
                  (try simp (disch := omega) only [qA])
                  ((repeat refine CWp.seq ?_); refine CWp.region ?_)
                  repeat (first | refine RL.w good ?_ | refine RL.k ?_)
                  refine RL.nil ?_
                  (try simp (disch := omega) only [qA])
                  refine ⟨(i + 1, l.getD i 0), ⟨by dsimp only; omega, fun j hj => ?_⟩, by dsimp only; omega, ?_⟩
                  · by_cases e : j = i
                    · subst e; exact hb2
                    · exact h2.out j (by dsimp only at hj; omega)
                  · ((try dsimp only); apply fades_to En []; (· (repeat (refine And.intro ?_ ?_; (· ((try simp only [push_cast, reduceIte, Nat.reduceEqDiff, *]) <;> first | exact rfl | exact SV.fv En (by assumption) | exact ⟨_, rfl, Rn_loc ⟨_, rfl⟩ rfl, rfl, rfl⟩ | exact ⟨_, _, rfl, rfl, rfl⟩ | exact congrArg (Value.int _) (by omega))))) <;> exact trivial); (· exact trivial); (· exact trivial); (· (repeat (refine And.intro ⟨by decide, _, _, rfl, rfl, ?_⟩ ?_; (· (first | exact ⟨_, rfl, flatsFV rfl⟩ | exact ⟨_, rfl, intsFVL _⟩ | (refine ⟨_, rfl, ?_⟩; (repeat (refine ⟨_, _, rfl, ?_, ?_⟩; (· (first | exact rfl | exact SV.fv En (by assumption) | exact ⟨_, rfl, Rn_loc ⟨_, rfl⟩ rfl, rfl, rfl⟩ | exact ⟨_, _, rfl, rfl, rfl⟩ | exact congrArg (Value.int _) (by omega))))); exact rfl))))) <;> exact trivial); (· exact rfl))
          · rintro v h' ⟨e, _⟩; cases e
        · (intro hc; (try simp only [decide_eq_true_eq, decide_eq_false_iff_not, Bool.not_eq_true, Bool.not_eq_false, Int.not_lt, Int.not_le, bne_iff_ne, beq_iff_eq, ne_eq, Bool.not_eq_eq_eq_not, Bool.not_true, Bool.not_false] at hc))
          obtain rfl : i = l.length := by omega
          have hsm := Hid.mk (small_of h2.out)
          clear h2
          (refine CWp.exit ?_; (try simp (disch := omega) only [qA]))
          ((repeat refine CWp.seq ?_); refine CWp.region ?_)
          repeat (first | refine RL.w good ?_ | refine RL.k ?_)
          refine RL.nil ?_
          (try simp (disch := omega) only [qA])
          ((repeat refine CWp.seq ?_); refine CWp.cnd good ?_ ?_)
          · intro _
            ((repeat refine CWp.seq ?_); refine CWp.region ?_)
            repeat (first | refine RL.w good ?_ | refine RL.k ?_)
            refine RL.nil ?_
            (try simp (disch := omega) only [qA])
            (refine CWp.ret ?_; (try simp (disch := omega) only [qA]); refine rtB ?_; (try simp only [oneV]))
            exact ChkPost.bad En (by decide)
          · intro _
            (refine CWp.skip ?_; (try simp (disch := omega) only [qA]))
            obtain ⟨hd1, hd2⟩ := hv.drop (a := 1) (by omega) (by omega)
            generalize subV Tryz.prog 22 v (some (.int .i64 1)) none = dv at *
            have hl2 : (l.drop (Int.toNat 1)).length = l.length - 1 := by simp
            have hg2 : Hid (∀ j, (l.drop (Int.toNat 1)).getD j 0 = l.getD (j + 1) 0) := ⟨fun j => by simp [List.getD_eq_getElem?_getD, Nat.add_comm]⟩
            have hlen2 := hd2.len
            have hidx2 := hd2.idx
            have hld2 := hd2.ld
            have sdv := hd2.sv
            clear hd2
            generalize l.drop (Int.toNat 1) = l2 at *
            replace hl2 := Hid.mk hl2
            have hl3 : l2.length + 1 ≤ l.length := by have := hl2.out; omega
            ((repeat refine CWp.seq ?_); refine CWp.region ?_)
            repeat (first | refine RL.w good ?_ | refine RL.k ?_)
            refine RL.nil ?_
            (try simp (disch := omega) only [qA])
            ((repeat refine CWp.seq ?_); refine CWp.block ?_)
            refine CWp.loop (fun (i : Nat) => (tl [(0, v), (39, dv), (40, .int .i64 l2.length), (41, .int .i64 i)], ov h [] [] 0)) (fun i => l2.length - i) (fun i => i ≤ l2.length) 0 (by omega) ?_ ?_
            · ((try dsimp only); apply fades_to En []; (· (repeat (refine And.intro ?_ ?_; (· ((try simp only [push_cast, reduceIte, Nat.reduceEqDiff, *]) <;> first | exact rfl | exact SV.fv En (by assumption) | exact ⟨_, rfl, Rn_loc ⟨_, rfl⟩ rfl, rfl, rfl⟩ | exact ⟨_, _, rfl, rfl, rfl⟩ | exact congrArg (Value.int _) (by omega))))) <;> exact trivial); (· exact trivial); (· exact trivial); (· (repeat (refine And.intro ⟨by decide, _, _, rfl, rfl, ?_⟩ ?_; (· (first | exact ⟨_, rfl, flatsFV rfl⟩ | exact ⟨_, rfl, intsFVL _⟩ | (refine ⟨_, rfl, ?_⟩; (repeat (refine ⟨_, _, rfl, ?_, ?_⟩; (· (first | exact rfl | exact SV.fv En (by assumption) | exact ⟨_, rfl, Rn_loc ⟨_, rfl⟩ rfl, rfl, rfl⟩ | exact ⟨_, _, rfl, rfl, rfl⟩ | exact congrArg (Value.int _) (by omega))))); exact rfl))))) <;> exact trivial); (· exact rfl))
            · rintro i h1
              dsimp only at h1 ⊢
              ((repeat refine CWp.seq ?_); refine CWp.region ?_)
              repeat (first | refine RL.w good ?_ | refine RL.k ?_)
              refine RL.nil ?_
              (try simp (disch := omega) only [qA])
              ((repeat refine CWp.seq ?_); refine CWp.cnd good ?_ ?_)
              · (intro hc; (try simp only [decide_eq_true_eq, decide_eq_false_iff_not, Bool.not_eq_true, Bool.not_eq_false, Int.not_lt, Int.not_le, bne_iff_ne, beq_iff_eq, ne_eq, Bool.not_eq_eq_eq_not, Bool.not_true, Bool.not_false] at hc))
                (refine CWp.skip ?_; (try simp (disch := omega) only [qA]))
                have hx := Hid.mk (hsm.out (i + 1))
                rw [← hg2.out i] at hx
                obtain ⟨ht1, ht2⟩ := hv.take (b := (i : Int) + 1) (by omega) (by omega)
                ((repeat refine CWp.seq ?_); refine CWp.block ?_)
                ((repeat refine CWp.seq ?_); refine CWp.region ?_)
                repeat (first | refine RL.w good ?_ | refine RL.k ?_)
                refine RL.nil ?_
                (try simp (disch := omega) only [qA])
                ((repeat refine CWp.seq ?_); refine CWp.region ?_)
                repeat (first | refine RL.w good ?_ | refine RL.k ?_)
                (refine' RL.c good ?_ ?_ ?_; rotate_left)
                · exact f42s _ _ _ _ (ht2.ov _ _) (by simp only [List.length_take]; omega) (by have := hx.out; omega) (fun j => by have := (hsm.out.take ((i : Int) + 1).toNat) j; omega)
                · rintro v' h' ⟨e, rfl⟩
                  cases e
                  unfold wayV
                  cases hw : wayL (l.take ((i : Int) + 1).toNat) (l2.getD i 0) (l.take ((i : Int) + 1).toNat).length with
                  | none =>
                    simp only [push_cast]
                    repeat (first | refine RL.w good ?_ | refine RL.k ?_)
                    refine RL.nil ?_
                    (try simp (disch := omega) only [qA])
                    ((repeat refine CWp.seq ?_); refine CWp.region ?_)
                    repeat (first | refine RL.w good ?_ | refine RL.k ?_)
                    refine RL.nil ?_
                    (try simp (disch := omega) only [qA])
                    ((repeat refine CWp.seq ?_); refine CWp.cnd good ?_ ?_)
                    · intro _
                      ((repeat refine CWp.seq ?_); refine CWp.region ?_)
                      repeat (first | refine RL.w good ?_ | refine RL.k ?_)
                      refine RL.nil ?_
                      (try simp (disch := omega) only [qA])
                      (refine CWp.ret ?_; (try simp (disch := omega) only [qA]); refine rtB ?_; (try simp only [oneV]))
                      exact ChkPost.bad En (by decide)
                    · intro hc; cases hc
                  | some r =>
                    obtain ⟨r1, r2⟩ := r
                    simp only [push_cast]
                    repeat (first | refine RL.w good ?_ | refine RL.k ?_)
                    refine RL.nil ?_
                    (try simp (disch := omega) only [qA])
                    ((repeat refine CWp.seq ?_); refine CWp.region ?_)
                    repeat (first | refine RL.w good ?_ | refine RL.k ?_)
                    refine RL.nil ?_
                    (try simp (disch := omega) only [qA])
                    ((repeat refine CWp.seq ?_); refine CWp.cnd good ?_ ?_)
                    · intro hc; cases hc
                    · intro _
                      (refine CWp.skip ?_; (try simp (disch := omega) only [qA]))
                      ((repeat refine CWp.seq ?_); refine CWp.region ?_)
                      repeat (first | refine RL.w good ?_ | refine RL.k ?_)
                      refine RL.nil ?_
                      (try simp (disch := omega) only [qA])
                      refine ⟨i + 1, by omega, by (try dsimp only); omega, ?_⟩
                      ((try dsimp only); apply fades_to En []; (· (repeat (refine And.intro ?_ ?_; (· ((try simp only [push_cast, reduceIte, Nat.reduceEqDiff, *]) <;> first | exact rfl | exact SV.fv En (by assumption) | exact ⟨_, rfl, Rn_loc ⟨_, rfl⟩ rfl, rfl, rfl⟩ | exact ⟨_, _, rfl, rfl, rfl⟩ | exact congrArg (Value.int _) (by omega))))) <;> exact trivial); (· exact trivial); (· exact trivial); (· (repeat (refine And.intro ⟨by decide, _, _, rfl, rfl, ?_⟩ ?_; (· (first | exact ⟨_, rfl, flatsFV rfl⟩ | exact ⟨_, rfl, intsFVL _⟩ | (refine ⟨_, rfl, ?_⟩; (repeat (refine ⟨_, _, rfl, ?_, ?_⟩; (· (first | exact rfl | exact SV.fv En (by assumption) | exact ⟨_, rfl, Rn_loc ⟨_, rfl⟩ rfl, rfl, rfl⟩ | exact ⟨_, _, rfl, rfl, rfl⟩ | exact congrArg (Value.int _) (by omega))))); exact rfl))))) <;> exact trivial); (· exact rfl))
                · rintro v h' ⟨e, _⟩; cases e
              · (intro hc; (try simp only [decide_eq_true_eq, decide_eq_false_iff_not, Bool.not_eq_true, Bool.not_eq_false, Int.not_lt, Int.not_le, bne_iff_ne, beq_iff_eq, ne_eq, Bool.not_eq_eq_eq_not, Bool.not_true, Bool.not_false] at hc))
                (refine CWp.exit ?_; (try simp (disch := omega) only [qA]))
                ((repeat refine CWp.seq ?_); refine CWp.region ?_)
                repeat (first | refine RL.w good ?_ | refine RL.k ?_)
                refine RL.nil ?_
                (try simp (disch := omega) only [qA])
                (refine CWp.ret ?_; (try simp (disch := omega) only [qA]); refine rtB ?_; (try simp only [oneV]))
                exact EndB.plain En rfl ⟨0, rfl, fun _ => ⟨hpos, by omega, hsm.out⟩, rfl⟩
end Go.Ab
namespace Go.Ab
open Go.Proofs
set_option maxRecDepth 10000
theorem takeN_ints {l : List Int} {n : Nat} (h : n = l.length) : takeN n (ints l) = ints l := by rw [takeN_eq, h, ← ints_length l, List.take_length]
theorem ints_snoc2 (l : List Int) (x y : Int) : Ab.ints l ++ [.int .i64 x, .int .i64 y] = Ab.ints (l ++ [x, y]) := by simp [Ab.ints]
attribute [push_cast] takeN_ints ints_snoc2 ints_length
/-- rows of sz ints in new memory -/
def MadeRows (et sz : Nat) (h : Hp) (l : List Int) (n : Nat) (v : Value) (h' : Hp) : Prop :=
  l.length = n * sz ∧ ((v = .slice none 0 0 ∧ n = 0 ∧ h' = h) ∨ ∃ c, v = .slice (some ⟨loc h 0, 0, none⟩) n c ∧ h' = Ab.ov h [] [(0, .cells (Ab.ints l) false et)] 1 ∧ CapOK c n sz)
theorem MadeRows.fade {P : Program} {h : Hp} (En : Entry P h) {L : List (Nat × AObj)} {k et sz n : Nat} (hb : below k L = true) {l : List Int} {v : Value} {h' : Hp} (m : MadeRows et sz (Ab.ov h [] L k) l n v h') :
    ∃ τ h2 v2, Fades P h.next τ h' h2 ∧ FV (Rt τ h2) v2 v ∧ MadeRows et sz h l n v2 h2 := by
  obtain ⟨hl, ⟨rfl, rfl, rfl⟩ | ⟨c, rfl, rfl, hc⟩⟩ := m
  · exact ⟨tau h [], h, .slice none 0 0, fades_same En L k, rfl, hl, .inl ⟨rfl, rfl, rfl⟩⟩
  · rw [ov_ov hb, loc_ov]
    refine ⟨tau h [(0, k)], Ab.ov h [] [(0, .cells (Ab.ints l) false et)] 1, .slice (some ⟨loc h 0, 0, none⟩) n c, fades_ov En [(0, k)] trivial trivial ⟨⟨by omega, k, _, rfl, ?_, ⟨_, rfl, intsFVL l⟩⟩, trivial⟩ rfl, ?_, hl, .inr ⟨c, rfl, rfl, hc⟩⟩
    · simp only [shift, Nat.add_zero, List.cons_append, lk, if_true]
    · exact ⟨_, rfl, Rn_loc ⟨_, rfl⟩ rfl, rfl, rfl⟩
theorem MadeRows.endWith {P : Program} {h : Hp} (En : Entry P h) {L : List (Nat × AObj)} {k et sz n : Nat} (hb : below k L = true) {l : List Int} {v : Value} {h' : Hp} (m : MadeRows et sz (Ab.ov h [] L k) l n v h') {r : Value} {Q : AEnd → Hp → Prop} (hr : flat r = true) (q : ∀ v2 h2, MadeRows et sz h l n v2 h2 → Q (.ret (.tuple #[v2, r])) h2) : EndB P h Q (.ret (.tuple #[v, r])) h' := by
  obtain ⟨τ, h2, v2, a, b, c⟩ := m.fade En hb
  exact ⟨τ, h2, .tuple #[v2, r], a, ⟨_, rfl, ⟨_, _, rfl, b, _, _, rfl, flatFV hr, rfl⟩⟩, q _ _ c⟩
/-- what grows by append, in a loop: its value and its block -/
def outV (h : Hp) (sz n : Nat) : Value := if n = 0 then .slice none 0 0 else .slice (some ⟨loc h 0, 0, none⟩) n (U + sz)
def outL (et : Nat) (l : List Int) (n : Nat) : List (Nat × AObj) := if n = 0 then [] else [(0, .cells (ints l) false et)]
def outK (n : Nat) : Nat := if n = 0 then 0 else 1
theorem out_made {et sz : Nat} {h : Hp} {P : Program} (En : Entry P h) {l : List Int} {n : Nat} (hl : l.length = n * sz) : MadeRows et sz h l n (outV h sz n) (Ab.ov h [] (outL et l n) (outK n)) := by
  refine ⟨hl, ?_⟩
  unfold outV outL outK
  by_cases hn : n = 0
  · rw [if_pos hn, if_pos hn, if_pos hn]; exact .inl ⟨rfl, hn, ov_self En.lt⟩
  · rw [if_neg hn, if_neg hn, if_neg hn]; exact .inr ⟨_, rfl, rfl, .inl rfl⟩
theorem wayV_form (l : List Int) (x : Int) : ∃ a b t, wayV l x = .tuple #[.agg #[.int .i64 a, .int .i64 b], .bool t] := by
  unfold wayV
  cases wayL l x l.length with
  | none => exact ⟨_, _, _, rfl⟩
  | some r => exact ⟨_, _, _, rfl⟩
def PairsErr (h : Hp) (e : AEnd) (h' : Hp) : Prop := ∃ l m v n, e = .ret (.tuple #[v, .int .i64 n]) ∧ MadeRows 69 2 h l m v h' ∧ m ≤ 1000
set_option maxHeartbeats 4000000 in
theorem f10s (v : Value) (l : List Int) (h : Hp) (hv : IsInts h v l) (hl : l.length ≤ 1000000) : ACalls Tryz.prog 10 [v] (PairsErr h) h := by
  have hlen := hv.len
  (refine ACalls.bodyB (fn := Tryz.f10) (ng := 4) (N := 38) (res := [.tmp 2, .tmp 3]) (by kernel_rfl) rfl rfl rfl (by kernel_rfl) (fun En hs => ?_); simp only [argsL, Nat.reduceAdd])
  have sv := hv.sv
  clear hs
  ((repeat refine CWp.seq ?_); refine CWp.region ?_)
  repeat (first | refine RL.w good ?_ | refine RL.k ?_)
  refine RL.nil ?_
  (try simp (disch := omega) only [qA])
  ((repeat refine CWp.seq ?_); refine CWp.region ?_)
  repeat (first | refine RL.w good ?_ | refine RL.k ?_)
  (refine' RL.c good ?_ ?_ ?_; rotate_left)
  · exact f8s _ _ _ (hv.ov _ _) hl
  · rintro v' h' ⟨n, e, hn, rfl⟩
    cases e
    replace hn := Hid.mk hn
    simp only [push_cast]
    repeat (first | refine RL.w good ?_ | refine RL.k ?_)
    refine RL.nil ?_
    (try simp (disch := omega) only [qA])
    ((repeat refine CWp.seq ?_); refine CWp.region ?_)
    repeat (first | refine RL.w good ?_ | refine RL.k ?_)
    refine RL.nil ?_
    (try simp (disch := omega) only [qA])
    ((repeat refine CWp.seq ?_); refine CWp.cnd good ?_ ?_)
    · intro _
      ((repeat refine CWp.seq ?_); refine CWp.region ?_)
      repeat (first | refine RL.w good ?_ | refine RL.k ?_)
      refine RL.nil ?_
      (try simp (disch := omega) only [qA])
      (refine CWp.ret ?_; (try simp (disch := omega) only [qA]); refine rtB ?_; (try simp only [oneV]))
      exact EndB.plain En rfl ⟨[], 0, _, n, rfl, ⟨rfl, .inl ⟨rfl, rfl, rfl⟩⟩, by omega⟩
    · intro hc
      obtain ⟨hpos, hll, hsm⟩ := hn.out (by simpa using hc)
      clear hn
      replace hsm := Hid.mk hsm
      obtain ⟨hd1, hd2⟩ := hv.drop (a := 1) (by omega) (by omega)
      generalize subV Tryz.prog 22 v (some (.int .i64 1)) none = dv at *
      have hl2 : (l.drop (Int.toNat 1)).length = l.length - 1 := by simp
      have hg2 : Hid (∀ j, (l.drop (Int.toNat 1)).getD j 0 = l.getD (j + 1) 0) := ⟨fun j => by simp [List.getD_eq_getElem?_getD, Nat.add_comm]⟩
      have hlen2 := hd2.len
      have hidx2 := hd2.idx
      have hld2 := hd2.ld
      have sdv := hd2.sv
      clear hd2
      generalize l.drop (Int.toNat 1) = l2 at *
      replace hl2 := Hid.mk hl2
      have hl3 : l2.length + 1 ≤ l.length := by have := hl2.out; omega
      (refine CWp.skip ?_; (try simp (disch := omega) only [qA]))
      ((repeat refine CWp.seq ?_); refine CWp.region ?_)
      repeat (first | refine RL.w good ?_ | refine RL.k ?_)
      refine RL.nil ?_
      (try simp (disch := omega) only [qA])
      ((repeat refine CWp.seq ?_); refine CWp.region ?_)
      repeat (first | refine RL.w good ?_ | refine RL.k ?_)
      refine RL.nil ?_
      (try simp (disch := omega) only [qA])
      ((repeat refine CWp.seq ?_); refine CWp.block ?_)
      refine CWp.loop (fun (s : Nat × List Int) => (tl [(0, v), (5, outV h 2 s.1), (16, dv), (17, .int .i64 l2.length), (18, .int .i64 s.1)], ov h [] (outL 69 s.2 s.1) (outK s.1))) (fun s => l2.length - s.1) (fun s => s.1 ≤ l2.length ∧ s.2.length = s.1 * 2) (0, []) ⟨by omega, rfl⟩ ?_ ?_
      · ((try dsimp only); apply fades_to En []; (· (repeat (refine And.intro ?_ ?_; (· ((try simp only [push_cast, reduceIte, Nat.reduceEqDiff, *]) <;> first | exact rfl | exact SV.fv En (by assumption) | exact ⟨_, rfl, Rn_loc ⟨_, rfl⟩ rfl, rfl, rfl⟩ | exact ⟨_, _, rfl, rfl, rfl⟩ | exact congrArg (Value.int _) (by omega))))) <;> exact trivial); (· exact trivial); (· exact trivial); (· (repeat (refine And.intro ⟨by decide, _, _, rfl, rfl, ?_⟩ ?_; (· (first | exact ⟨_, rfl, flatsFV rfl⟩ | exact ⟨_, rfl, intsFVL _⟩ | (refine ⟨_, rfl, ?_⟩; (repeat (refine ⟨_, _, rfl, ?_, ?_⟩; (· (first | exact rfl | exact SV.fv En (by assumption) | exact ⟨_, rfl, Rn_loc ⟨_, rfl⟩ rfl, rfl, rfl⟩ | exact ⟨_, _, rfl, rfl, rfl⟩ | exact congrArg (Value.int _) (by omega))))); exact rfl))))) <;> exact trivial); (· exact rfl))
      · rintro ⟨i, r⟩ ⟨h1, h2⟩
        dsimp only at h1 h2 ⊢
        have hx := Hid.mk (hsm.out (i + 1))
        rw [← hg2.out i] at hx
        by_cases hi0 : i = 0
        · subst hi0
          obtain rfl : r = [] := List.length_eq_zero_iff.1 (by omega)
          rw [show outV h 2 0 = .slice none 0 0 from rfl, show outL 69 [] 0 = [] from rfl, show outK 0 = 0 from rfl]
          ((repeat refine CWp.seq ?_); refine CWp.region ?_)
          repeat (first | refine RL.w good ?_ | refine RL.k ?_)
          refine RL.nil ?_
          (try simp (disch := omega) only [qA])
          ((repeat refine CWp.seq ?_); refine CWp.cnd good ?_ ?_)
          · (intro hc; (try simp only [decide_eq_true_eq, decide_eq_false_iff_not, Bool.not_eq_true, Bool.not_eq_false, Int.not_lt, Int.not_le, bne_iff_ne, beq_iff_eq, ne_eq, Bool.not_eq_eq_eq_not, Bool.not_true, Bool.not_false] at hc))
            obtain ⟨ht1, ht2⟩ := hv.take (b := (0 : Int) + 1) (by omega) (by omega)
            (refine CWp.skip ?_; (try simp (disch := omega) only [qA]))
            ((repeat refine CWp.seq ?_); refine CWp.block ?_)
            ((repeat refine CWp.seq ?_); refine CWp.region ?_)
            repeat (first | refine RL.w good ?_ | refine RL.k ?_)
            refine RL.nil ?_
            (try simp (disch := omega) only [qA])
            ((repeat refine CWp.seq ?_); refine CWp.region ?_)
            repeat (first | refine RL.w good ?_ | refine RL.k ?_)
            (refine' RL.c good ?_ ?_ ?_; rotate_left)
            · exact f42s _ _ _ _ (ht2.ov _ _) (by simp only [List.length_take]; omega) (by have := hx.out; omega) (fun j => by have := (hsm.out.take (Int.toNat ((0 : Int) + 1))) j; omega)
            · rintro v' h' ⟨e, rfl⟩
              cases e
              obtain ⟨wa, wb, wt, hw⟩ := wayV_form (l.take (Int.toNat ((0 : Int) + 1))) (l2.getD 0 0)
              rw [hw]
              simp only [push_cast]
              repeat (first | refine RL.w good ?_ | refine RL.k ?_)
              refine RL.nil ?_
              (try simp (disch := omega) only [qA])
              ((repeat refine CWp.seq ?_); refine CWp.region ?_)
              repeat (first | refine RL.w good ?_ | refine RL.k ?_)
              refine RL.nil ?_
              (try simp (disch := omega) only [qA])
              ((repeat refine CWp.seq ?_); refine CWp.region ?_)
              repeat (first | refine RL.w good ?_ | refine RL.k ?_)
              refine RL.nil ?_
              (try simp (disch := omega) only [qA])
              refine ⟨(0 + 1, [] ++ [wa, wb]), ⟨by (try dsimp only); omega, by (try simp only [List.length_append, List.length_cons, List.length_nil]); (try omega)⟩, by (try dsimp only); omega, ?_⟩
              dsimp only
              rw [show outV h 2 (0 + 1) = .slice (some ⟨loc h 0, 0, none⟩) (0 + 1) (U + 2) from rfl, show outL 69 ([] ++ [wa, wb]) (0 + 1) = [(0, .cells (ints [wa, wb]) false 69)] from rfl, show outK (0 + 1) = 1 from rfl]
              ((try dsimp only); apply fades_to En [(0, 2)]; (· (repeat (refine And.intro ?_ ?_; (· ((try simp only [push_cast, reduceIte, Nat.reduceEqDiff, *]) <;> first | exact rfl | exact SV.fv En (by assumption) | exact ⟨_, rfl, Rn_loc ⟨_, rfl⟩ rfl, rfl, rfl⟩ | exact ⟨_, _, rfl, rfl, rfl⟩ | exact congrArg (Value.int _) (by omega))))) <;> exact trivial); (· exact trivial); (· exact trivial); (· (repeat (refine And.intro ⟨by decide, _, _, rfl, rfl, ?_⟩ ?_; (· (first | exact ⟨_, rfl, flatsFV rfl⟩ | exact ⟨_, rfl, intsFVL _⟩ | (refine ⟨_, rfl, ?_⟩; (repeat (refine ⟨_, _, rfl, ?_, ?_⟩; (· (first | exact rfl | exact SV.fv En (by assumption) | exact ⟨_, rfl, Rn_loc ⟨_, rfl⟩ rfl, rfl, rfl⟩ | exact ⟨_, _, rfl, rfl, rfl⟩ | exact congrArg (Value.int _) (by omega))))); exact rfl))))) <;> exact trivial); (· exact rfl))
            · rintro v h' ⟨e, _⟩; cases e
          · (intro hc; (try simp only [decide_eq_true_eq, decide_eq_false_iff_not, Bool.not_eq_true, Bool.not_eq_false, Int.not_lt, Int.not_le, bne_iff_ne, beq_iff_eq, ne_eq, Bool.not_eq_eq_eq_not, Bool.not_true, Bool.not_false] at hc))
            (refine CWp.exit ?_; (try simp (disch := omega) only [qA]))
            ((repeat refine CWp.seq ?_); refine CWp.region ?_)
            repeat (first | refine RL.w good ?_ | refine RL.k ?_)
            refine RL.nil ?_
            (try simp (disch := omega) only [qA])
            (refine CWp.ret ?_; (try simp (disch := omega) only [qA]); refine rtB ?_; (try simp only [oneV]))
            exact EndB.plain En rfl ⟨[], 0, _, 0, rfl, ⟨rfl, .inl ⟨rfl, rfl, rfl⟩⟩, by omega⟩
        · rw [show outV h 2 i = .slice (some ⟨loc h 0, 0, none⟩) i (U + 2) from if_neg hi0, show outL 69 r i = [(0, .cells (ints r) false 69)] from if_neg hi0, show outK i = 1 from if_neg hi0]
          ((repeat refine CWp.seq ?_); refine CWp.region ?_)
          repeat (first | refine RL.w good ?_ | refine RL.k ?_)
          refine RL.nil ?_
          (try simp (disch := omega) only [qA])
          ((repeat refine CWp.seq ?_); refine CWp.cnd good ?_ ?_)
          · (intro hc; (try simp only [decide_eq_true_eq, decide_eq_false_iff_not, Bool.not_eq_true, Bool.not_eq_false, Int.not_lt, Int.not_le, bne_iff_ne, beq_iff_eq, ne_eq, Bool.not_eq_eq_eq_not, Bool.not_true, Bool.not_false] at hc))
            obtain ⟨ht1, ht2⟩ := hv.take (b := (i : Int) + 1) (by omega) (by omega)
            (refine CWp.skip ?_; (try simp (disch := omega) only [qA]))
            ((repeat refine CWp.seq ?_); refine CWp.block ?_)
            ((repeat refine CWp.seq ?_); refine CWp.region ?_)
            repeat (first | refine RL.w good ?_ | refine RL.k ?_)
            refine RL.nil ?_
            (try simp (disch := omega) only [qA])
            ((repeat refine CWp.seq ?_); refine CWp.region ?_)
            repeat (first | refine RL.w good ?_ | refine RL.k ?_)
            (refine' RL.c good ?_ ?_ ?_; rotate_left)
            · exact f42s _ _ _ _ (ht2.ov _ _) (by simp only [List.length_take]; omega) (by have := hx.out; omega) (fun j => by have := (hsm.out.take (Int.toNat ((i : Int) + 1))) j; omega)
            · rintro v' h' ⟨e, rfl⟩
              cases e
              obtain ⟨wa, wb, wt, hw⟩ := wayV_form (l.take (Int.toNat ((i : Int) + 1))) (l2.getD i 0)
              rw [hw]
              simp only [push_cast]
              repeat (first | refine RL.w good ?_ | refine RL.k ?_)
              refine RL.nil ?_
              (try simp (disch := omega) only [qA])
              ((repeat refine CWp.seq ?_); refine CWp.region ?_)
              repeat (first | refine RL.w good ?_ | refine RL.k ?_)
              refine RL.nil ?_
              (try simp (disch := omega) only [qA])
              ((repeat refine CWp.seq ?_); refine CWp.region ?_)
              repeat (first | refine RL.w good ?_ | refine RL.k ?_)
              refine RL.nil ?_
              (try simp (disch := omega) only [qA])
              refine ⟨(i + 1, r ++ [wa, wb]), ⟨by (try dsimp only); omega, by (try simp only [List.length_append, List.length_cons, List.length_nil]); (try omega)⟩, by (try dsimp only); omega, ?_⟩
              dsimp only
              rw [show outV h 2 (i + 1) = .slice (some ⟨loc h 0, 0, none⟩) (i + 1) (U + 2) from rfl, show outL 69 (r ++ [wa, wb]) (i + 1) = [(0, .cells (ints (r ++ [wa, wb])) false 69)] from rfl, show outK (i + 1) = 1 from rfl]
              ((try dsimp only); apply fades_to En [(0, 3)]; (· (repeat (refine And.intro ?_ ?_; (· ((try simp only [push_cast, reduceIte, Nat.reduceEqDiff, *]) <;> first | exact rfl | exact SV.fv En (by assumption) | exact ⟨_, rfl, Rn_loc ⟨_, rfl⟩ rfl, rfl, rfl⟩ | exact ⟨_, _, rfl, rfl, rfl⟩ | exact congrArg (Value.int _) (by omega))))) <;> exact trivial); (· exact trivial); (· exact trivial); (· (repeat (refine And.intro ⟨by decide, _, _, rfl, rfl, ?_⟩ ?_; (· (first | exact ⟨_, rfl, flatsFV rfl⟩ | exact ⟨_, rfl, intsFVL _⟩ | (refine ⟨_, rfl, ?_⟩; (repeat (refine ⟨_, _, rfl, ?_, ?_⟩; (· (first | exact rfl | exact SV.fv En (by assumption) | exact ⟨_, rfl, Rn_loc ⟨_, rfl⟩ rfl, rfl, rfl⟩ | exact ⟨_, _, rfl, rfl, rfl⟩ | exact congrArg (Value.int _) (by omega))))); exact rfl))))) <;> exact trivial); (· exact rfl))
            · rintro v h' ⟨e, _⟩; cases e
          · (intro hc; (try simp only [decide_eq_true_eq, decide_eq_false_iff_not, Bool.not_eq_true, Bool.not_eq_false, Int.not_lt, Int.not_le, bne_iff_ne, beq_iff_eq, ne_eq, Bool.not_eq_eq_eq_not, Bool.not_true, Bool.not_false] at hc))
            (refine CWp.exit ?_; (try simp (disch := omega) only [qA]))
            ((repeat refine CWp.seq ?_); refine CWp.region ?_)
            repeat (first | refine RL.w good ?_ | refine RL.k ?_)
            refine RL.nil ?_
            (try simp (disch := omega) only [qA])
            (refine CWp.ret ?_; (try simp (disch := omega) only [qA]); refine rtB ?_; (try simp only [oneV]))
            exact MadeRows.endWith (L := []) (k := 0) (et := 69) (sz := 2) (l := r) (n := i) En rfl (by rw [ov_self En.lt]; exact ⟨h2, .inr ⟨_, rfl, rfl, .inl rfl⟩⟩) rfl fun v2 h2 m => ⟨r, i, v2, 0, rfl, m, by omega⟩
  · rintro v h' ⟨n, e, _⟩; cases e
theorem takeN2_ints {l : List Int} {o : Nat} (h : o + 2 ≤ l.length) : takeN 2 (dropN o (ints l)) = [.int .i64 (l.getD o 0), .int .i64 (l.getD (o + 1) 0)] := by
  rw [takeN_eq, dropN_eq, ints_drop, ints_take]
  rw [List.drop_eq_getElem_cons (by omega), List.drop_eq_getElem_cons (by omega)]
  simp only [List.take_succ_cons, List.take_zero, ints, List.map_cons, List.map_nil, List.getD_eq_getElem?_getD]
  rw [List.getElem?_eq_getElem (by omega), List.getElem?_eq_getElem (by omega)]
  rfl
attribute [push_cast] takeN2_ints
def BoolErr (h : Hp) (e : AEnd) (h' : Hp) : Prop := ∃ b n, e = .ret (.tuple #[.bool b, .int .i64 n]) ∧ h' = h
set_option maxHeartbeats 4000000 in
theorem f14s (v : Value) (l : List Int) (h : Hp) (hv : IsInts h v l) (hl : l.length ≤ 1000000) : ACalls Tryz.prog 14 [v] (BoolErr h) h := by
  (refine ACalls.bodyB (fn := Tryz.f14) (ng := 4) (N := 28) (res := [.tmp 2, .tmp 3]) (by kernel_rfl) rfl rfl rfl (by kernel_rfl) (fun En hs => ?_); simp only [argsL, Nat.reduceAdd])
  clear hs
  ((repeat refine CWp.seq ?_); refine CWp.region ?_)
  repeat (first | refine RL.w good ?_ | refine RL.k ?_)
  refine RL.nil ?_
  (try simp (disch := omega) only [qA])
  ((repeat refine CWp.seq ?_); refine CWp.region ?_)
  repeat (first | refine RL.w good ?_ | refine RL.k ?_)
  (refine' RL.c good ?_ ?_ ?_; rotate_left)
  · exact f10s _ _ _ (hv.ov _ _) hl
  · rintro v' h' ⟨r, m, w, n, e, ⟨hr, hm⟩, hm1⟩
    cases e
    rcases hm with ⟨rfl, rfl, rfl⟩ | ⟨c, rfl, rfl, hc⟩
    · simp only [push_cast]
      repeat (first | refine RL.w good ?_ | refine RL.k ?_)
      refine RL.nil ?_
      (try simp (disch := omega) only [qA])
      ((repeat refine CWp.seq ?_); refine CWp.region ?_)
      repeat (first | refine RL.w good ?_ | refine RL.k ?_)
      refine RL.nil ?_
      (try simp (disch := omega) only [qA])
      ((repeat refine CWp.seq ?_); refine CWp.block ?_)
      refine CWp.loop (fun (i : Unit) => (tl [(5, .int .i64 n), (14, .int .i64 0), (15, .int .i64 0)], ov h [] [] 0)) (fun i => 0) (fun i => True) () trivial ?_ ?_
      · ((try dsimp only); apply fades_to En []; (· (repeat (refine And.intro ?_ ?_; (· ((try simp only [push_cast, reduceIte, Nat.reduceEqDiff, *]) <;> first | exact rfl | exact SV.fv En (by assumption) | exact ⟨_, rfl, Rn_loc ⟨_, rfl⟩ rfl, rfl, rfl⟩ | exact ⟨_, _, rfl, rfl, rfl⟩ | exact congrArg (Value.int _) (by omega))))) <;> exact trivial); (· exact trivial); (· exact trivial); (· (repeat (refine And.intro ⟨by decide, _, _, rfl, rfl, ?_⟩ ?_; (· (first | exact ⟨_, rfl, flatsFV rfl⟩ | exact ⟨_, rfl, intsFVL _⟩ | (refine ⟨_, rfl, ?_⟩; (repeat (refine ⟨_, _, rfl, ?_, ?_⟩; (· (first | exact rfl | exact SV.fv En (by assumption) | exact ⟨_, rfl, Rn_loc ⟨_, rfl⟩ rfl, rfl, rfl⟩ | exact ⟨_, _, rfl, rfl, rfl⟩ | exact congrArg (Value.int _) (by omega))))); exact rfl))))) <;> exact trivial); (· exact rfl))
      · rintro i _
        dsimp only
        ((repeat refine CWp.seq ?_); refine CWp.region ?_)
        repeat (first | refine RL.w good ?_ | refine RL.k ?_)
        refine RL.nil ?_
        (try simp (disch := omega) only [qA])
        ((repeat refine CWp.seq ?_); refine CWp.cnd good ?_ ?_)
        · intro hc; cases hc
        · intro _
          (refine CWp.exit ?_; (try simp (disch := omega) only [qA]))
          ((repeat refine CWp.seq ?_); refine CWp.region ?_)
          repeat (first | refine RL.w good ?_ | refine RL.k ?_)
          refine RL.nil ?_
          (try simp (disch := omega) only [qA])
          (refine CWp.ret ?_; (try simp (disch := omega) only [qA]); refine rtB ?_; (try simp only [oneV]))
          exact EndB.plain En rfl ⟨_, _, rfl, rfl⟩
    · rw [ov_self En.lt]
      replace hc := Hid.mk hc
      simp only [push_cast]
      repeat (first | refine RL.w good ?_ | refine RL.k ?_)
      refine RL.nil ?_
      (try simp (disch := omega) only [qA])
      ((repeat refine CWp.seq ?_); refine CWp.region ?_)
      repeat (first | refine RL.w good ?_ | refine RL.k ?_)
      refine RL.nil ?_
      (try simp (disch := omega) only [qA])
      ((repeat refine CWp.seq ?_); refine CWp.block ?_)
      refine CWp.loop (fun (i : Nat) => (tl [(5, .int .i64 n), (13, .slice (some ⟨loc h 0, 0, none⟩) m c), (14, .int .i64 m), (15, .int .i64 i)], ov h [] [(0, .cells (ints r) false 69)] 1)) (fun i => m - i) (fun i => i ≤ m) 0 (by omega) ?_ ?_
      · ((try dsimp only); apply fades_to En [(0, 0)]; (· (repeat (refine And.intro ?_ ?_; (· ((try simp only [push_cast, reduceIte, Nat.reduceEqDiff, *]) <;> first | exact rfl | exact SV.fv En (by assumption) | exact ⟨_, rfl, Rn_loc ⟨_, rfl⟩ rfl, rfl, rfl⟩ | exact ⟨_, _, rfl, rfl, rfl⟩ | exact congrArg (Value.int _) (by omega))))) <;> exact trivial); (· exact trivial); (· exact trivial); (· (repeat (refine And.intro ⟨by decide, _, _, rfl, rfl, ?_⟩ ?_; (· (first | exact ⟨_, rfl, flatsFV rfl⟩ | exact ⟨_, rfl, intsFVL _⟩ | (refine ⟨_, rfl, ?_⟩; (repeat (refine ⟨_, _, rfl, ?_, ?_⟩; (· (first | exact rfl | exact SV.fv En (by assumption) | exact ⟨_, rfl, Rn_loc ⟨_, rfl⟩ rfl, rfl, rfl⟩ | exact ⟨_, _, rfl, rfl, rfl⟩ | exact congrArg (Value.int _) (by omega))))); exact rfl))))) <;> exact trivial); (· exact rfl))
      · rintro i h1
        dsimp only at h1 ⊢
        ((repeat refine CWp.seq ?_); refine CWp.region ?_)
        repeat (first | refine RL.w good ?_ | refine RL.k ?_)
        refine RL.nil ?_
        (try simp (disch := omega) only [qA])
        ((repeat refine CWp.seq ?_); refine CWp.cnd good ?_ ?_)
        · (intro hc; (try simp only [decide_eq_true_eq, decide_eq_false_iff_not, Bool.not_eq_true, Bool.not_eq_false, Int.not_lt, Int.not_le, bne_iff_ne, beq_iff_eq, ne_eq, Bool.not_eq_eq_eq_not, Bool.not_true, Bool.not_false] at hc))
          (refine CWp.skip ?_; (try simp (disch := omega) only [qA]))
          ((repeat refine CWp.seq ?_); refine CWp.block ?_)
          ((repeat refine CWp.seq ?_); refine CWp.region ?_)
          repeat (first | refine RL.w good ?_ | refine RL.k ?_)
          refine RL.nil ?_
          (try simp (disch := omega) only [qA])
          ((repeat refine CWp.seq ?_); refine CWp.region ?_)
          repeat (first | refine RL.w good ?_ | refine RL.k ?_)
          refine RL.nil ?_
          (try simp (disch := omega) only [qA])
          ((repeat refine CWp.seq ?_); refine CWp.cnd good ?_ ?_)
          · intro _
            ((repeat refine CWp.seq ?_); refine CWp.region ?_)
            repeat (first | refine RL.w good ?_ | refine RL.k ?_)
            refine RL.nil ?_
            (try simp (disch := omega) only [qA])
            (refine CWp.ret ?_; (try simp (disch := omega) only [qA]); refine rtB ?_; (try simp only [oneV]))
            exact EndB.plain En rfl ⟨_, _, rfl, rfl⟩
          · intro _
            (refine CWp.skip ?_; (try simp (disch := omega) only [qA]))
            ((repeat refine CWp.seq ?_); refine CWp.region ?_)
            repeat (first | refine RL.w good ?_ | refine RL.k ?_)
            refine RL.nil ?_
            (try simp (disch := omega) only [qA])
            refine ⟨i + 1, by omega, by (try dsimp only); omega, ?_⟩
            ((try dsimp only); apply fades_to En [(0, 0)]; (· (repeat (refine And.intro ?_ ?_; (· ((try simp only [push_cast, reduceIte, Nat.reduceEqDiff, *]) <;> first | exact rfl | exact SV.fv En (by assumption) | exact ⟨_, rfl, Rn_loc ⟨_, rfl⟩ rfl, rfl, rfl⟩ | exact ⟨_, _, rfl, rfl, rfl⟩ | exact congrArg (Value.int _) (by omega))))) <;> exact trivial); (· exact trivial); (· exact trivial); (· (repeat (refine And.intro ⟨by decide, _, _, rfl, rfl, ?_⟩ ?_; (· (first | exact ⟨_, rfl, flatsFV rfl⟩ | exact ⟨_, rfl, intsFVL _⟩ | (refine ⟨_, rfl, ?_⟩; (repeat (refine ⟨_, _, rfl, ?_, ?_⟩; (· (first | exact rfl | exact SV.fv En (by assumption) | exact ⟨_, rfl, Rn_loc ⟨_, rfl⟩ rfl, rfl, rfl⟩ | exact ⟨_, _, rfl, rfl, rfl⟩ | exact congrArg (Value.int _) (by omega))))); exact rfl))))) <;> exact trivial); (· exact rfl))
        · (intro hc; (try simp only [decide_eq_true_eq, decide_eq_false_iff_not, Bool.not_eq_true, Bool.not_eq_false, Int.not_lt, Int.not_le, bne_iff_ne, beq_iff_eq, ne_eq, Bool.not_eq_eq_eq_not, Bool.not_true, Bool.not_false] at hc))
          (refine CWp.exit ?_; (try simp (disch := omega) only [qA]))
          ((repeat refine CWp.seq ?_); refine CWp.region ?_)
          repeat (first | refine RL.w good ?_ | refine RL.k ?_)
          refine RL.nil ?_
          (try simp (disch := omega) only [qA])
          (refine CWp.ret ?_; (try simp (disch := omega) only [qA]); refine rtB ?_; (try simp only [oneV]))
          exact EndB.plain En rfl ⟨_, _, rfl, rfl⟩
  · rintro v h' ⟨r, m, w, n, e, _⟩; cases e
def IntErr (h : Hp) (e : AEnd) (h' : Hp) : Prop := ∃ b n, e = .ret (.tuple #[.int .i64 b, .int .i64 n]) ∧ h' = h
set_option maxHeartbeats 4000000 in
theorem f29s (a b : Int) (v : Value) (l : List Int) (h : Hp) (hv : IsInts h v l) (hl : l.length ≤ 1000000) : ACalls Tryz.prog 29 [v, .agg #[.int .i64 a, .int .i64 b]] (IntErr h) h := by
  (refine ACalls.bodyB (fn := Tryz.f29) (ng := 4) (N := 20) (res := [.tmp 4, .tmp 5]) (by kernel_rfl) rfl rfl rfl (by kernel_rfl) (fun En hs => ?_); simp only [argsL, Nat.reduceAdd])
  clear hs
  ((repeat refine CWp.seq ?_); refine CWp.region ?_)
  repeat (first | refine RL.w good ?_ | refine RL.k ?_)
  refine RL.nil ?_
  (try simp (disch := omega) only [qA])
  ((repeat refine CWp.seq ?_); refine CWp.region ?_)
  repeat (first | refine RL.w good ?_ | refine RL.k ?_)
  (refine' RL.c good ?_ ?_ ?_; rotate_left)
  · exact f8s _ _ _ (hv.ov _ _) hl
  · rintro v' h' ⟨n, e, hn, rfl⟩
    cases e
    replace hn := Hid.mk hn
    simp only [push_cast]
    repeat (first | refine RL.w good ?_ | refine RL.k ?_)
    refine RL.nil ?_
    (try simp (disch := omega) only [qA])
    ((repeat refine CWp.seq ?_); refine CWp.block ?_)
    ((repeat refine CWp.seq ?_); refine CWp.region ?_)
    repeat (first | refine RL.w good ?_ | refine RL.k ?_)
    refine RL.nil ?_
    (try simp (disch := omega) only [qA])
    ((repeat refine CWp.seq ?_); refine CWp.cnd good ?_ ?_)
    · intro _
      ((repeat refine CWp.seq ?_); refine CWp.region ?_)
      repeat (first | refine RL.w good ?_ | refine RL.k ?_)
      refine RL.nil ?_
      (try simp (disch := omega) only [qA])
      (refine CWp.ret ?_; (try simp (disch := omega) only [qA]); refine rtB ?_; (try simp only [oneV]))
      exact EndB.plain En rfl ⟨_, _, rfl, rfl⟩
    · intro hc
      obtain ⟨hpos, hll, hsm⟩ := hn.out (by simpa using hc)
      clear hn
      replace hsm := Hid.mk hsm
      ((repeat refine CWp.seq ?_); refine CWp.region ?_)
      repeat (first | refine RL.w good ?_ | refine RL.k ?_)
      (refine' RL.c good ?_ ?_ ?_; rotate_left)
      · exact f48s _ _ _
      · rintro v' h' ⟨e, rfl⟩
        cases e
        simp only [push_cast]
        cases hg : (btw 0 a 1000 && btw 0 b 1000)
        · repeat (first | refine RL.w good ?_ | refine RL.k ?_)
          refine RL.nil ?_
          (try simp (disch := omega) only [qA])
          ((repeat refine CWp.seq ?_); refine CWp.cnd good ?_ ?_)
          · intro _
            ((repeat refine CWp.seq ?_); refine CWp.region ?_)
            repeat (first | refine RL.w good ?_ | refine RL.k ?_)
            refine RL.nil ?_
            (try simp (disch := omega) only [qA])
            (refine CWp.ret ?_; (try simp (disch := omega) only [qA]); refine rtB ?_; (try simp only [oneV]))
            exact EndB.plain En rfl ⟨_, _, rfl, rfl⟩
          · intro hc; cases hc
        · obtain ⟨g1, g2⟩ := Bool.and_eq_true_iff.1 hg
          have g3 := btw_spec g1
          have g4 := btw_spec g2
          repeat (first | refine RL.w good ?_ | refine RL.k ?_)
          refine RL.nil ?_
          (try simp (disch := omega) only [qA])
          ((repeat refine CWp.seq ?_); refine CWp.cnd good ?_ ?_)
          · intro hc; cases hc
          · intro _
            (refine CWp.skip ?_; (try simp (disch := omega) only [qA]))
            ((repeat refine CWp.seq ?_); refine CWp.region ?_)
            repeat (first | refine RL.w good ?_ | refine RL.k ?_)
            (refine' RL.c good ?_ ?_ ?_; rotate_left)
            · exact f49s a b _ _ _ (hv.ov _ _) hll hsm.out g3 g4
            · rintro v' h' ⟨c, e, _, _, rfl⟩
              cases e
              simp only [push_cast]
              repeat (first | refine RL.w good ?_ | refine RL.k ?_)
              refine RL.nil ?_
              (try simp (disch := omega) only [qA])
              (refine CWp.ret ?_; (try simp (disch := omega) only [qA]); refine rtB ?_; (try simp only [oneV]))
              exact EndB.plain En rfl ⟨_, _, rfl, rfl⟩
            · rintro v h' ⟨c, e, _⟩; cases e
      · rintro v h' ⟨e, _⟩; cases e
  · rintro v h' ⟨n, e, _⟩; cases e
end Go.Ab
