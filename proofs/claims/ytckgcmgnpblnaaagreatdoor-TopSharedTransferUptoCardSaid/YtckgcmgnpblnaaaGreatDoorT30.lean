/- A part of the proof of a law over a given program: S1, S2, S3. -/
import Derived.Test.YtckgcmgnpblnaaaGreatDoorT14
import Derived.Test.YtckgcmgnpblnaaaGreatDoorT17
import Derived.Test.YtckgcmgnpblnaaaGreatDoorT22
set_option linter.unusedVariables false
set_option linter.unusedSimpArgs false
namespace Go.Ab
open Go.Proofs
set_option maxRecDepth 10000
attribute [local push_cast] ldN_lowU ov_low takeN_one repl1 getD_set_self' Option.toList_some
theorem takeN_intsE {l : List Int} {n : Nat} (h : n = l.length) : takeN n (ints l) = ints l := by rw [takeN_eq, h, ← ints_length l, List.take_length]
attribute [local push_cast] takeN_intsE ints_length
set_option maxHeartbeats 4000000 in
theorem f39s : SeeOK Tryz.prog 58 3 9 39 .int := by
  intro h b o be E n0 s0 ns ss m a0 hr he hdis hm hn hs0 ha
  obtain ⟨x, hx, rfl, rfl⟩ := hr
  obtain ⟨c, ro, el, hgb, hco⟩ := cellOf_spec hx
  have hb1 := (hdis b o ⟨rfl, rfl⟩).1
  have hb := (hdis b o ⟨rfl, rfl⟩).2
  have hol : o < c.length := (List.getElem?_eq_some_iff.1 hco).1
  obtain ⟨nv, sv, hge, hbe, hEbe, hnv, hsv, hdv⟩ := he
  have hne : ¬ be = b := fun e => hb1 (e ▸ hEbe)
  have hne' : ¬ b = be := fun e => hb1 (e ▸ hEbe)
  simp only [List.length_cons, List.length_nil] at hn ha
  have hsb : ∀ sb n c, sv = .slice (some ⟨sb, 0, none⟩) n c → ¬ be = sb ∧ ¬ b = sb := by
    intro sb n c e
    rcases hsv with ⟨e2, _⟩ | ⟨s2, e2, _, e3, e4, _⟩
    · rw [e] at e2; cases e2
    · rw [e] at e2; cases e2
      exact ⟨fun q => e4 q.symm, fun q => hb1 (q ▸ e3)⟩
  rcases hnv with ⟨rfl, hn0⟩ | ⟨nb, rfl, hnb, hEnb, hnbe, hgn⟩
  · obtain rfl : n0 = [] := by cases n0 with | nil => rfl | cons => cases hn0
    cases m
    · (refine ACalls.bodyB (fn := Tryz.f39) (ng := 4) (N := 33) (res := []) (by kernel_rfl) rfl rfl rfl (by kernel_rfl) (fun En hs => ?_); simp only [argsL, Nat.reduceAdd])
      clear hs
      ((repeat refine CWp.seq ?_); refine CWp.region ?_)
      repeat (first | refine RL.w good ?_ | refine RL.k ?_)
      refine RL.nil ?_
      (try simp (disch := omega) only [qR])
      ((repeat refine CWp.seq ?_); refine CWp.cnd good ?_ ?_)
      · intro hc; cases hc
      · intro _
        (refine CWp.skip ?_; (try simp (disch := omega) only [qR]))
        ((repeat refine CWp.seq ?_); refine CWp.drawI good (fun g => memN g []) [(0, true), (1, true), (2, true), (3, true), (4, true), (5, true), (6, true), (7, true), (8, false), (9, false), (10, true), (11, true), (12, false)] (by kernel_rfl) (fun _ _ _ q => q) ?_)
        repeat (first | refine PL.w ?_ | refine PL.wk ?_ | refine PL.ew ?_ | refine PL.ewk ?_)
        refine PL.nil ?_
        ((try simp (disch := omega) only [qR]); refine nmQ ?_; (try simp only [oneV]))
        refine SeePost.int (j := 1) (n := 1) (a1 := a0) (x' := x) hbe hEbe hsv hb hgb hco hb1 ?_ rfl rfl (by decide) rfl ?_ ?_ ?_
        · (try rfl) <;> simp [lk, upd, hne, hne', hgb]
        · intro sb n c e; have := hsb _ _ _ e; simp [lk, upd, hne, hne', this.1, this.2]
        · exact .inr ⟨rfl, rfl, rfl, by simp [lk, upd, hne, hne', hgb]⟩
        · simp [lk, upd, hne, hne', hgb]; (try simp [hEbe])
    · obtain ⟨_, hwr⟩ := hm rfl
      obtain ⟨c2, e2, hg2⟩ := hwr b o ⟨rfl, rfl⟩
      rw [hgb] at hg2
      cases hg2
      have hcl : (c.set o (.int .i64 (a0 + 1)))[o]? = some (.int .i64 (a0 + 1)) := getD_set_self' hol
      (refine ACalls.bodyB (fn := Tryz.f39) (ng := 4) (N := 33) (res := []) (by kernel_rfl) rfl rfl rfl (by kernel_rfl) (fun En hs => ?_); simp only [argsL, Nat.reduceAdd])
      clear hs
      ((repeat refine CWp.seq ?_); refine CWp.region ?_)
      repeat (first | refine RL.w good ?_ | refine RL.k ?_)
      refine RL.nil ?_
      (try simp (disch := omega) only [qR])
      ((repeat refine CWp.seq ?_); refine CWp.cnd good ?_ ?_)
      · intro _
        ((repeat refine CWp.seq ?_); refine CWp.region ?_)
        repeat (first | refine RL.w good ?_ | refine RL.k ?_)
        refine RL.nil ?_
        (try simp (disch := omega) only [qR])
        ((repeat refine CWp.seq ?_); refine CWp.region ?_)
        repeat (first | refine RL.w good ?_ | refine RL.k ?_)
        refine RL.nil ?_
        (try simp (disch := omega) only [qR])
        ((repeat refine CWp.seq ?_); refine CWp.drawI good (fun g => memN g []) [(0, true), (1, true), (2, true), (3, true), (4, true), (5, true), (6, true), (7, true), (8, false), (9, false), (10, true), (11, true), (12, false)] (by kernel_rfl) (fun _ _ _ q => q) ?_)
        repeat (first | refine PL.w ?_ | refine PL.wk ?_ | refine PL.ew ?_ | refine PL.ewk ?_)
        refine PL.nil ?_
        ((try simp (disch := omega) only [qR]); refine nmQ ?_; (try simp only [oneV]))
        refine SeePost.int (j := 1) (n := 1) (a1 := a0 + 1) (x' := a0 + 1) hbe hEbe hsv hb hgb hco hb1 ?_ rfl rfl (by decide) rfl ?_ ?_ ?_
        · (try rfl) <;> simp [lk, upd, hne, hne', hgb]
        · intro sb n c e; have := hsb _ _ _ e; simp [lk, upd, hne, hne', this.1, this.2]
        · exact .inl ⟨rfl, rfl, rfl, rfl, by simp [lk, upd, hne, hne', hgb]⟩
        · simp [lk, upd, hne, hne', hgb]; (try simp [hEbe])
      · intro hc; cases hc
  · have hbn : ¬ nb = b := fun e => hb1 (e ▸ hEnb)
    have hbn' : ¬ b = nb := fun e => hb1 (e ▸ hEnb)
    have hbe' : ¬ be = nb := fun e => hnbe e.symm
    rw [ints_length] at *
    cases m
    · (refine ACalls.bodyB (fn := Tryz.f39) (ng := 4) (N := 33) (res := []) (by kernel_rfl) rfl rfl rfl (by kernel_rfl) (fun En hs => ?_); simp only [argsL, Nat.reduceAdd])
      clear hs
      ((repeat refine CWp.seq ?_); refine CWp.region ?_)
      repeat (first | refine RL.w good ?_ | refine RL.k ?_)
      refine RL.nil ?_
      (try simp (disch := omega) only [qR])
      ((repeat refine CWp.seq ?_); refine CWp.cnd good ?_ ?_)
      · intro hc; cases hc
      · intro _
        (refine CWp.skip ?_; (try simp (disch := omega) only [qR]))
        ((repeat refine CWp.seq ?_); refine CWp.drawI good (fun g => memN g []) [(0, true), (1, true), (2, true), (3, true), (4, true), (5, true), (6, true), (7, true), (8, false), (9, false), (10, true), (11, true), (12, false)] (by kernel_rfl) (fun _ _ _ q => q) ?_)
        repeat (first | refine PL.w ?_ | refine PL.wk ?_ | refine PL.ew ?_ | refine PL.ewk ?_)
        refine PL.nil ?_
        ((try simp (disch := omega) only [qR]); refine nmQ ?_; (try simp only [oneV]))
        refine SeePost.int (j := 1) (n := n0.length + 1) (a1 := a0) (x' := x) hbe hEbe hsv hb hgb hco hb1 ?_ rfl rfl (by decide) rfl ?_ ?_ ?_
        · (try rfl) <;> simp [lk, upd, hne, hne', hgb, hbn, hbn', hnbe, hbe']
        · intro sb n c e; have := hsb _ _ _ e; have h3 := hdv _ _ _ _ _ _ rfl e; simp only [ne_eq] at h3; simp [lk, upd, hne, hne', hbn, hbn', hnbe, hbe', this.1, this.2, h3]
        · exact .inr ⟨rfl, rfl, rfl, by simp [lk, upd, hne, hne', hgb, hbn, hbn', hnbe, hbe']⟩
        · simp [lk, upd, hne, hne', hgb, hbn, hbn', hnbe, hbe']; (try simp [hEbe, hEnb])
    · obtain ⟨_, hwr⟩ := hm rfl
      obtain ⟨c2, e2, hg2⟩ := hwr b o ⟨rfl, rfl⟩
      rw [hgb] at hg2
      cases hg2
      have hcl : (c.set o (.int .i64 (a0 + 1)))[o]? = some (.int .i64 (a0 + 1)) := getD_set_self' hol
      (refine ACalls.bodyB (fn := Tryz.f39) (ng := 4) (N := 33) (res := []) (by kernel_rfl) rfl rfl rfl (by kernel_rfl) (fun En hs => ?_); simp only [argsL, Nat.reduceAdd])
      clear hs
      ((repeat refine CWp.seq ?_); refine CWp.region ?_)
      repeat (first | refine RL.w good ?_ | refine RL.k ?_)
      refine RL.nil ?_
      (try simp (disch := omega) only [qR])
      ((repeat refine CWp.seq ?_); refine CWp.cnd good ?_ ?_)
      · intro _
        ((repeat refine CWp.seq ?_); refine CWp.region ?_)
        repeat (first | refine RL.w good ?_ | refine RL.k ?_)
        refine RL.nil ?_
        (try simp (disch := omega) only [qR])
        ((repeat refine CWp.seq ?_); refine CWp.region ?_)
        repeat (first | refine RL.w good ?_ | refine RL.k ?_)
        refine RL.nil ?_
        (try simp (disch := omega) only [qR])
        ((repeat refine CWp.seq ?_); refine CWp.drawI good (fun g => memN g []) [(0, true), (1, true), (2, true), (3, true), (4, true), (5, true), (6, true), (7, true), (8, false), (9, false), (10, true), (11, true), (12, false)] (by kernel_rfl) (fun _ _ _ q => q) ?_)
        repeat (first | refine PL.w ?_ | refine PL.wk ?_ | refine PL.ew ?_ | refine PL.ewk ?_)
        refine PL.nil ?_
        ((try simp (disch := omega) only [qR]); refine nmQ ?_; (try simp only [oneV]))
        refine SeePost.int (j := 1) (n := n0.length + 1) (a1 := a0 + 1) (x' := a0 + 1) hbe hEbe hsv hb hgb hco hb1 ?_ rfl rfl (by decide) rfl ?_ ?_ ?_
        · (try rfl) <;> simp [lk, upd, hne, hne', hgb, hbn, hbn', hnbe, hbe']
        · intro sb n c e; have := hsb _ _ _ e; have h3 := hdv _ _ _ _ _ _ rfl e; simp only [ne_eq] at h3; simp [lk, upd, hne, hne', hbn, hbn', hnbe, hbe', this.1, this.2, h3]
        · exact .inl ⟨rfl, rfl, rfl, rfl, by simp [lk, upd, hne, hne', hgb, hbn, hbn', hnbe, hbe']⟩
        · simp [lk, upd, hne, hne', hgb, hbn, hbn', hnbe, hbe']; (try simp [hEbe, hEnb])
      · intro hc; cases hc
end Go.Ab
namespace Go.Ab
open Go.Proofs
set_option maxRecDepth 10000
attribute [local push_cast] ldN_lowU ov_low takeN_one repl1 getD_set_self' Option.toList_some
attribute [local push_cast] takeN_intsE ints_length
theorem lenA_sl3 {E : Nat → Option TI} {get : Nat → Option AObj} {t : Nat} {a : Option Addr} {n c e : Nat} (h : ∃ i, E t = some i ∧ i.k = .sl e) : lenA E get t (.slice a n c) = some (goInt n) := by
  obtain ⟨i, h1, h2⟩ := h
  obtain ⟨k, _, _, _, _⟩ := i
  simp only at h2
  subst h2
  unfold lenA
  rw [h1]
theorem ge_true {i n : Nat} (h : ¬ ((i : Int) < n)) (hi : i ≤ n) : i = n := by omega
set_option maxHeartbeats 4000000 in
theorem f46s {gEl : FuncId} (ent : Enters Tryz.prog gEl) (KE : SeeOK Tryz.prog 58 3 9 gEl .int) : AllOK Tryz.prog 58 3 9 46 gEl .int 1 := by
  intro h a n c b2 o2 be E n0 s0 f g m a0 hs2 A he
  have hnb := A.bound
  have hn := A.ln
  have hn' := A.ls
  have ha := A.la
  simp only [List.length_append, List.length_cons, List.length_nil] at hn
  obtain ⟨nv, sv, hge, hbe, hEbe, hnv, hsv, hdv⟩ := id he
  have hsb : ∀ sb n c, sv = .slice (some ⟨sb, 0, none⟩) n c → ¬ be = sb := by
    intro sb n c e
    rcases hsv with ⟨e2, _⟩ | ⟨s2, e2, _, e3, e4, _⟩
    · rw [e] at e2; cases e2
    · rw [e] at e2; cases e2
      exact fun q => e4 q.symm
  (refine ACalls.bodyB (fn := Tryz.f46) (ng := 4) (N := 30) (res := []) (by kernel_rfl) rfl rfl rfl (by kernel_rfl) (fun En hs => ?_); simp only [argsL, Nat.reduceAdd])
  clear hs
  refine CWp.cutR (K := AllInv 58 3 9 .int 1 h b2 o2 n be E (n0 ++ [(n : Int)]) s0 f g m a0 0) (TL := [(0, .pointer (some ⟨be, 0, none⟩)), (1, .slice a n c), (2, .func (.func gEl) #[] #[])]) ?_ ?_
  · rcases hnv with ⟨rfl, hn0⟩ | ⟨nb, rfl, hnb, hEnb, hnbe, hgn⟩
    · obtain rfl : n0 = [] := by cases n0 with | nil => rfl | cons => cases hn0
      ((repeat refine CWp.seq ?_); refine CWp.region ?_)
      repeat (first | refine RL.w good ?_ | refine RL.k ?_)
      refine RL.nil ?_
      (try simp (disch := omega) only [qR])
      refine ⟨tl_less (by simp [lk]), ?_⟩
      (try simp only [upd])
      refine AllInv.start (j := 1) (nn := 1) (nv := _) A.rep A.dis hbe hEbe hsv ?_ rfl rfl (by decide) rfl ?_ ?_
      · (try rfl) <;> simp [lk, upd]
      · intro sb n c e; have := hsb _ _ _ e; simp [lk, upd, this]
      · simp [lk, upd]; (try simp [hEbe])
    · have hbe' : ¬ be = nb := fun e => hnbe e.symm
      rw [ints_length] at *
      ((repeat refine CWp.seq ?_); refine CWp.region ?_)
      repeat (first | refine RL.w good ?_ | refine RL.k ?_)
      refine RL.nil ?_
      (try simp (disch := omega) only [qR])
      refine ⟨tl_less (by simp [lk]), ?_⟩
      (try simp only [upd, hnbe, hbe', if_false, if_true])
      refine AllInv.start (j := 1) (nn := n0.length + 1) (nv := _) A.rep A.dis hbe hEbe hsv ?_ rfl (by simp) (by decide) rfl ?_ ?_
      · (try rfl) <;> simp [lk, upd, hnbe, hbe']
      · intro sb n c e; have := hsb _ _ _ e; have h3 := hdv _ _ _ _ _ _ rfl e; simp only [ne_eq] at h3; simp [lk, upd, hnbe, hbe', this, h3]
      · simp [lk, upd, hnbe, hbe']; (try simp [hEbe, hEnb])
  · intro h1 I1
    ((repeat refine CWp.seq ?_); refine CWp.region ?_)
    repeat (first | refine RL.w good ?_ | refine RL.k ?_)
    refine RL.nil ?_
    (try simp (disch := omega) only [qR])
    ((repeat refine CWp.seq ?_); refine CWp.block ?_)
    refine CWp.loopR (α := Nat × Hp) (fun s => (tl [(6, .int .i64 s.1), (0, .pointer (some ⟨be, 0, none⟩)), (1, .slice a n c), (2, .func (.func gEl) #[] #[])], s.2)) (fun s => n - s.1) (fun s => s.1 ≤ n ∧ AllInv 58 3 9 .int 1 h b2 o2 n be E (n0 ++ [(n : Int)]) s0 f g m a0 s.1 s.2) (0, h1) ⟨Nat.zero_le _, I1⟩ ?_ rfl ?_
    · exact tl_less (by simp [lk])
    · rintro ⟨i, h2⟩ ⟨hi, I2⟩
      simp only at hi I2 ⊢
      ((repeat refine CWp.seq ?_); refine CWp.region ?_)
      repeat (first | refine RL.w good ?_ | refine RL.k ?_)
      refine RL.nil ?_
      (try simp (disch := omega) only [qR])
      ((repeat refine CWp.seq ?_); refine CWp.cnd good ?_ ?_)
      · (intro hc; (try simp only [decide_eq_true_eq, decide_eq_false_iff_not, Bool.not_eq_true, Bool.not_eq_false, Int.not_lt, Int.not_le, bne_iff_ne, beq_iff_eq, ne_eq, Bool.not_eq_eq_eq_not, Bool.not_true, Bool.not_false] at hc))
        (refine CWp.skip ?_; (try simp (disch := omega) only [qR]))
        have hin : i < n := by omega
        rcases hs2 with ⟨_, hs2⟩ | hs2
        · omega
        subst hs2
        ((repeat refine CWp.seq ?_); refine CWp.block ?_)
        ((repeat refine CWp.seq ?_); refine CWp.region ?_)
        repeat (first | refine RL.w good ?_ | refine RL.k ?_)
        (apply RL.call good; (· (first | exact rfl | (simp only [push_cast, reduceIte, Nat.reduceEqDiff, *]; done) | (simp only [push_cast, reduceIte, Nat.reduceEqDiff, *]; exact rfl))); (· exact rfl); (· exact rfl); (· (simp (disch := omega) only [push_cast, reduceIte, Nat.reduceEqDiff, beq_self_eq_true, bne_self_eq_false, Int.reduceBEq, Int.reduceBNe, Int.reduceLT, Int.reduceLE, Nat.reduceAdd, Nat.reduceMul, Nat.reduceSub, Int.reduceToNat, Nat.reducePow, Int.reducePow, *] <;> exact rfl)); (· exact ent); (· (simp (disch := omega) only [push_cast, reduceIte, Nat.reduceEqDiff, beq_self_eq_true, bne_self_eq_false, Int.reduceBEq, Int.reduceBNe, Int.reduceLT, Int.reduceLE, Nat.reduceAdd, Nat.reduceMul, Nat.reduceSub, Int.reduceToNat, Nat.reducePow, Int.reducePow, *] <;> exact rfl)))
        · exact I2.call KE A hin
        · rintro v h3 ⟨e, I3⟩
          cases e
          refine RL.nil ?_
          (try simp (disch := omega) only [qR])
          ((repeat refine CWp.seq ?_); refine CWp.region ?_)
          repeat (first | refine RL.w good ?_ | refine RL.k ?_)
          refine RL.nil ?_
          (try simp only [roundR_normal])
          refine ⟨(i + 1, h3), ⟨hin, I3⟩, by simp only; omega, tl_less (by simp [lk]), rfl⟩
        · rintro v h3 ⟨e, I3⟩
          cases e
      · (intro hc; (try simp only [decide_eq_true_eq, decide_eq_false_iff_not, Bool.not_eq_true, Bool.not_eq_false, Int.not_lt, Int.not_le, bne_iff_ne, beq_iff_eq, ne_eq, Bool.not_eq_eq_eq_not, Bool.not_true, Bool.not_false] at hc))
        (refine CWp.exit ?_; (try simp (disch := omega) only [qR]))
        (try simp only [roundR_exit])
        obtain rfl : i = n := by omega
        ((try simp (disch := omega) only [qR]); refine nmQ ?_; (try simp only [oneV]))
        simp only [true_and]
        exact I2
set_option maxHeartbeats 4000000 in
theorem f43s {gEl : FuncId} (ent : Enters Tryz.prog gEl) (KE : SeeOK Tryz.prog 58 3 9 gEl (.seq .int 1 .int)) : AllOK Tryz.prog 58 3 9 43 gEl (.seq .int 1 .int) 2 := by
  intro h a n c b2 o2 be E n0 s0 f g m a0 hs2 A he
  have hnb := A.bound
  have hn := A.ln
  have hn' := A.ls
  have ha := A.la
  simp only [List.length_append, List.length_cons, List.length_nil] at hn
  obtain ⟨nv, sv, hge, hbe, hEbe, hnv, hsv, hdv⟩ := id he
  have hsb : ∀ sb n c, sv = .slice (some ⟨sb, 0, none⟩) n c → ¬ be = sb := by
    intro sb n c e
    rcases hsv with ⟨e2, _⟩ | ⟨s2, e2, _, e3, e4, _⟩
    · rw [e] at e2; cases e2
    · rw [e] at e2; cases e2
      exact fun q => e4 q.symm
  (refine ACalls.bodyB (fn := Tryz.f43) (ng := 4) (N := 30) (res := []) (by kernel_rfl) rfl rfl rfl (by kernel_rfl) (fun En hs => ?_); simp only [argsL, Nat.reduceAdd])
  clear hs
  refine CWp.cutR (K := AllInv 58 3 9 (.seq .int 1 .int) 2 h b2 o2 n be E (n0 ++ [(n : Int)]) s0 f g m a0 0) (TL := [(0, .pointer (some ⟨be, 0, none⟩)), (1, .slice a n c), (2, .func (.func gEl) #[] #[])]) ?_ ?_
  · rcases hnv with ⟨rfl, hn0⟩ | ⟨nb, rfl, hnb, hEnb, hnbe, hgn⟩
    · obtain rfl : n0 = [] := by cases n0 with | nil => rfl | cons => cases hn0
      ((repeat refine CWp.seq ?_); refine CWp.region ?_)
      repeat (first | refine RL.w good ?_ | refine RL.k ?_)
      refine RL.nil ?_
      (try simp (disch := omega) only [qR])
      refine ⟨tl_less (by simp [lk]), ?_⟩
      (try simp only [upd])
      refine AllInv.start (j := 1) (nn := 1) (nv := _) A.rep A.dis hbe hEbe hsv ?_ rfl rfl (by decide) rfl ?_ ?_
      · (try rfl) <;> simp [lk, upd]
      · intro sb n c e; have := hsb _ _ _ e; simp [lk, upd, this]
      · simp [lk, upd]; (try simp [hEbe])
    · have hbe' : ¬ be = nb := fun e => hnbe e.symm
      rw [ints_length] at *
      ((repeat refine CWp.seq ?_); refine CWp.region ?_)
      repeat (first | refine RL.w good ?_ | refine RL.k ?_)
      refine RL.nil ?_
      (try simp (disch := omega) only [qR])
      refine ⟨tl_less (by simp [lk]), ?_⟩
      (try simp only [upd, hnbe, hbe', if_false, if_true])
      refine AllInv.start (j := 1) (nn := n0.length + 1) (nv := _) A.rep A.dis hbe hEbe hsv ?_ rfl (by simp) (by decide) rfl ?_ ?_
      · (try rfl) <;> simp [lk, upd, hnbe, hbe']
      · intro sb n c e; have := hsb _ _ _ e; have h3 := hdv _ _ _ _ _ _ rfl e; simp only [ne_eq] at h3; simp [lk, upd, hnbe, hbe', this, h3]
      · simp [lk, upd, hnbe, hbe']; (try simp [hEbe, hEnb])
  · intro h1 I1
    ((repeat refine CWp.seq ?_); refine CWp.region ?_)
    repeat (first | refine RL.w good ?_ | refine RL.k ?_)
    refine RL.nil ?_
    (try simp (disch := omega) only [qR])
    ((repeat refine CWp.seq ?_); refine CWp.block ?_)
    refine CWp.loopR (α := Nat × Hp) (fun s => (tl [(6, .int .i64 s.1), (0, .pointer (some ⟨be, 0, none⟩)), (1, .slice a n c), (2, .func (.func gEl) #[] #[])], s.2)) (fun s => n - s.1) (fun s => s.1 ≤ n ∧ AllInv 58 3 9 (.seq .int 1 .int) 2 h b2 o2 n be E (n0 ++ [(n : Int)]) s0 f g m a0 s.1 s.2) (0, h1) ⟨Nat.zero_le _, I1⟩ ?_ rfl ?_
    · exact tl_less (by simp [lk])
    · rintro ⟨i, h2⟩ ⟨hi, I2⟩
      simp only at hi I2 ⊢
      ((repeat refine CWp.seq ?_); refine CWp.region ?_)
      repeat (first | refine RL.w good ?_ | refine RL.k ?_)
      refine RL.nil ?_
      (try simp (disch := omega) only [qR])
      ((repeat refine CWp.seq ?_); refine CWp.cnd good ?_ ?_)
      · (intro hc; (try simp only [decide_eq_true_eq, decide_eq_false_iff_not, Bool.not_eq_true, Bool.not_eq_false, Int.not_lt, Int.not_le, bne_iff_ne, beq_iff_eq, ne_eq, Bool.not_eq_eq_eq_not, Bool.not_true, Bool.not_false] at hc))
        (refine CWp.skip ?_; (try simp (disch := omega) only [qR]))
        have hin : i < n := by omega
        rcases hs2 with ⟨_, hs2⟩ | hs2
        · omega
        subst hs2
        ((repeat refine CWp.seq ?_); refine CWp.block ?_)
        ((repeat refine CWp.seq ?_); refine CWp.region ?_)
        repeat (first | refine RL.w good ?_ | refine RL.k ?_)
        (apply RL.call good; (· (first | exact rfl | (simp only [push_cast, reduceIte, Nat.reduceEqDiff, *]; done) | (simp only [push_cast, reduceIte, Nat.reduceEqDiff, *]; exact rfl))); (· exact rfl); (· exact rfl); (· (simp (disch := omega) only [push_cast, reduceIte, Nat.reduceEqDiff, beq_self_eq_true, bne_self_eq_false, Int.reduceBEq, Int.reduceBNe, Int.reduceLT, Int.reduceLE, Nat.reduceAdd, Nat.reduceMul, Nat.reduceSub, Int.reduceToNat, Nat.reducePow, Int.reducePow, *] <;> exact rfl)); (· exact ent); (· (simp (disch := omega) only [push_cast, reduceIte, Nat.reduceEqDiff, beq_self_eq_true, bne_self_eq_false, Int.reduceBEq, Int.reduceBNe, Int.reduceLT, Int.reduceLE, Nat.reduceAdd, Nat.reduceMul, Nat.reduceSub, Int.reduceToNat, Nat.reducePow, Int.reducePow, *] <;> exact rfl)))
        · exact I2.call KE A hin
        · rintro v h3 ⟨e, I3⟩
          cases e
          refine RL.nil ?_
          (try simp (disch := omega) only [qR])
          ((repeat refine CWp.seq ?_); refine CWp.region ?_)
          repeat (first | refine RL.w good ?_ | refine RL.k ?_)
          refine RL.nil ?_
          (try simp only [roundR_normal])
          refine ⟨(i + 1, h3), ⟨hin, I3⟩, by simp only; omega, tl_less (by simp [lk]), rfl⟩
        · rintro v h3 ⟨e, I3⟩
          cases e
      · (intro hc; (try simp only [decide_eq_true_eq, decide_eq_false_iff_not, Bool.not_eq_true, Bool.not_eq_false, Int.not_lt, Int.not_le, bne_iff_ne, beq_iff_eq, ne_eq, Bool.not_eq_eq_eq_not, Bool.not_true, Bool.not_false] at hc))
        (refine CWp.exit ?_; (try simp (disch := omega) only [qR]))
        (try simp only [roundR_exit])
        obtain rfl : i = n := by omega
        ((try simp (disch := omega) only [qR]); refine nmQ ?_; (try simp only [oneV]))
        simp only [true_and]
        exact I2
end Go.Ab
namespace Go.Ab
open Go.Proofs
set_option maxRecDepth 10000
attribute [local push_cast] ldN_lowU ov_low takeN_one repl1 getD_set_self' Option.toList_some
def tPrice : SeeTy := .seq .int 1 .int
def tTr : SeeTy := .seq (.sl 1 .int) 1 (.seq .int 1 (.seq .int 1 (.seq (.sl 1 .int) 1 tPrice)))
set_option maxHeartbeats 4000000 in
theorem f40s : SeeOK Tryz.prog 58 3 9 40 tPrice := by
  refine SeeOK.of fun h b o be E n0 s0 ns ss m a0 A => ?_
  obtain ⟨n1, s1, n2, s2, A1, K1⟩ := A.seq
  (refine ACalls.bodyB (fn := Tryz.f40) (ng := 4) (N := 14) (res := []) (by kernel_rfl) rfl rfl rfl (by kernel_rfl) (fun En hs => ?_); simp only [argsL, Nat.reduceAdd])
  clear hs
  rw [ov_self En.lt]
  ((repeat refine CWp.seq ?_); refine CWp.region ?_)
  repeat (first | refine RL.w good ?_ | refine RL.k ?_)
  (refine' RL.c good ?_ ?_ ?_; rotate_left)
  · exact f39s.calls A1
  · rintro v h1 p1
    obtain ⟨e, E', n0', s0', a1, A2, K2⟩ := K1 _ _ p1
    cases e
    refine RL.nil ?_
    (try simp (disch := omega) only [qR])
    ((repeat refine CWp.seq ?_); refine CWp.region ?_)
    repeat (first | refine RL.w good ?_ | refine RL.k ?_)
    (refine' RL.c good ?_ ?_ ?_; rotate_left)
    · exact f39s.calls A2
    · rintro v h2 p2
      have e := p2.1
      cases e
      refine RL.nil ?_
      (try simp (disch := omega) only [qR])
      ((try simp (disch := omega) only [qR]); refine nmQ ?_; (try simp only [oneV]))
      exact K2 _ _ p2
    · rintro v h2 p2; cases p2.1
  · rintro v h2 p2; cases p2.1
set_option maxHeartbeats 4000000 in
theorem f18s : SeeOK Tryz.prog 58 3 9 18 (.sl 1 .int) := by
  refine SeeOK.of fun h b o be E n0 s0 ns ss m a0 A => ?_
  have hb := (A.dis b o (.inl ⟨rfl, rfl⟩)).2
  obtain ⟨ad, n, cp, b2, o2, f, g, hc, hs2, A1, K1⟩ := A.sl
  obtain ⟨c, ro, el, hgb, hco⟩ := cellOf_spec hc
  (refine ACalls.bodyB (fn := Tryz.f18) (ng := 4) (N := 9) (res := []) (by kernel_rfl) rfl rfl rfl (by kernel_rfl) (fun En hs => ?_); simp only [argsL, Nat.reduceAdd])
  clear hs
  ((repeat refine CWp.seq ?_); refine CWp.region ?_)
  repeat (first | refine RL.w good ?_ | refine RL.k ?_)
  (refine' RL.c good ?_ ?_ ?_; rotate_left)
  · rw [ov_self En.lt]; exact f46s (en (by kernel_rfl)) f39s h ad n cp b2 o2 be E n0 s0 f g m a0 hs2 A1 A.eye
  · rintro v h1 ⟨e, p1⟩
    cases e
    refine RL.nil ?_
    (try simp (disch := omega) only [qR])
    ((try simp (disch := omega) only [qR]); refine nmQ ?_; (try simp only [oneV]))
    exact K1 _ p1
  · rintro v h2 p2; cases p2.1
set_option maxHeartbeats 4000000 in
theorem f6s : SeeOK Tryz.prog 58 3 9 6 tTr := by
  refine SeeOK.of fun h b o be E n0 s0 ns ss m a0 A => ?_
  obtain ⟨n1, s1, n2, s2, A1, K1⟩ := A.seq
  (refine ACalls.bodyB (fn := Tryz.f6) (ng := 4) (N := 29) (res := []) (by kernel_rfl) rfl rfl rfl (by kernel_rfl) (fun En hs => ?_); simp only [argsL, Nat.reduceAdd])
  clear hs
  rw [ov_self En.lt]
  ((repeat refine CWp.seq ?_); refine CWp.region ?_)
  repeat (first | refine RL.w good ?_ | refine RL.k ?_)
  (refine' RL.c good ?_ ?_ ?_; rotate_left)
  · exact f18s.calls A1
  · rintro v h1 p1
    obtain ⟨e, E', n0', s0', a1, A2, K2⟩ := K1 _ _ p1
    cases e
    obtain ⟨_, _, _, _, A3, K3⟩ := A2.seq
    refine RL.nil ?_
    (try simp (disch := omega) only [qR])
    ((repeat refine CWp.seq ?_); refine CWp.region ?_)
    repeat (first | refine RL.w good ?_ | refine RL.k ?_)
    (refine' RL.c good ?_ ?_ ?_; rotate_left)
    · exact f39s.calls A3
    · rintro v h2 p2
      obtain ⟨e, _, _, _, _, A4, K4⟩ := K3 _ _ p2
      cases e
      obtain ⟨_, _, _, _, A5, K5⟩ := A4.seq
      refine RL.nil ?_
      (try simp (disch := omega) only [qR])
      ((repeat refine CWp.seq ?_); refine CWp.region ?_)
      repeat (first | refine RL.w good ?_ | refine RL.k ?_)
      (refine' RL.c good ?_ ?_ ?_; rotate_left)
      · exact f39s.calls A5
      · rintro v h3 p3
        obtain ⟨e, _, _, _, _, A6, K6⟩ := K5 _ _ p3
        cases e
        obtain ⟨_, _, _, _, A7, K7⟩ := A6.seq
        refine RL.nil ?_
        (try simp (disch := omega) only [qR])
        ((repeat refine CWp.seq ?_); refine CWp.region ?_)
        repeat (first | refine RL.w good ?_ | refine RL.k ?_)
        (refine' RL.c good ?_ ?_ ?_; rotate_left)
        · exact f18s.calls A7
        · rintro v h4 p4
          obtain ⟨e, _, _, _, _, A8, K8⟩ := K7 _ _ p4
          cases e
          refine RL.nil ?_
          (try simp (disch := omega) only [qR])
          ((repeat refine CWp.seq ?_); refine CWp.region ?_)
          repeat (first | refine RL.w good ?_ | refine RL.k ?_)
          (refine' RL.c good ?_ ?_ ?_; rotate_left)
          · exact f40s.calls A8
          · rintro v h5 p5
            have e := p5.1
            cases e
            refine RL.nil ?_
            (try simp (disch := omega) only [qR])
            ((try simp (disch := omega) only [qR]); refine nmQ ?_; (try simp only [oneV]))
            exact K2 _ _ (K4 _ _ (K6 _ _ (K8 _ _ p5)))
          · rintro v h2 p2; cases p2.1
        · rintro v h2 p2; cases p2.1
      · rintro v h2 p2; cases p2.1
    · rintro v h2 p2; cases p2.1
  · rintro v h2 p2; cases p2.1
set_option maxHeartbeats 4000000 in
theorem f44s : SeeOK Tryz.prog 58 3 9 44 (.seq .int 1 .int) := by
  refine SeeOK.of fun h b o be E n0 s0 ns ss m a0 A => ?_
  obtain ⟨n1, s1, n2, s2, A1, K1⟩ := A.seq
  (refine ACalls.bodyB (fn := Tryz.f44) (ng := 4) (N := 15) (res := []) (by kernel_rfl) rfl rfl rfl (by kernel_rfl) (fun En hs => ?_); simp only [argsL, Nat.reduceAdd])
  clear hs
  rw [ov_self En.lt]
  ((repeat refine CWp.seq ?_); refine CWp.region ?_)
  repeat (first | refine RL.w good ?_ | refine RL.k ?_)
  refine RL.nil ?_
  (try simp (disch := omega) only [qR])
  ((repeat refine CWp.seq ?_); refine CWp.block ?_)
  refine CWp.loopR (α := Nat × Hp) (fun s => (tl [(4, .int .i64 s.1), (0, .pointer (some ⟨be, 0, none⟩)), (1, .pointer (some ⟨b, o, none⟩))], s.2)) (fun s => 2 - s.1) (fun s => (s.1 = 0 ∧ s.2 = h) ∨ (s.1 = 1 ∧ SeePost 58 3 9 .int h b o be E n0 s0 n1 s1 m a0 (.ret (.tuple #[])) s.2) ∨ (s.1 = 2 ∧ SeePost 58 3 9 (.seq .int 1 .int) h b o be E n0 s0 ns ss m a0 (.ret (.tuple #[])) s.2)) (0, h) (.inl ⟨rfl, rfl⟩) ?_ rfl ?_
  · exact tl_less (by simp [lk])
  · rintro ⟨i, h2⟩ hi
    rcases hi with ⟨hi, e⟩ | ⟨hi, I1⟩ | ⟨hi, I2⟩
    · simp only at hi e ⊢
      subst hi e
      ((repeat refine CWp.seq ?_); refine CWp.region ?_)
      repeat (first | refine RL.w good ?_ | refine RL.k ?_)
      refine RL.nil ?_
      (try simp (disch := omega) only [qR])
      ((repeat refine CWp.seq ?_); refine CWp.cnd good ?_ ?_)
      · intro _
        (refine CWp.skip ?_; (try simp (disch := omega) only [qR]))
        ((repeat refine CWp.seq ?_); refine CWp.block ?_)
        ((repeat refine CWp.seq ?_); refine CWp.region ?_)
        repeat (first | refine RL.w good ?_ | refine RL.k ?_)
        (refine' RL.c good ?_ ?_ ?_; rotate_left)
        · exact f39s.calls A1
        · rintro v h3 p3
          have e := p3.1
          cases e
          refine RL.nil ?_
          (try simp (disch := omega) only [qR])
          ((repeat refine CWp.seq ?_); refine CWp.region ?_)
          repeat (first | refine RL.w good ?_ | refine RL.k ?_)
          refine RL.nil ?_
          (try simp only [roundR_normal])
          refine ⟨(1, h3), .inr (.inl ⟨rfl, p3⟩), by simp, tl_less (by simp [lk]), rfl⟩
        · rintro v h2 p2; cases p2.1
      · intro hc; cases hc
    · simp only at hi I1 ⊢
      subst hi
      obtain ⟨_, E', n0', s0', a1, A2, K2⟩ := K1 _ _ I1
      ((repeat refine CWp.seq ?_); refine CWp.region ?_)
      repeat (first | refine RL.w good ?_ | refine RL.k ?_)
      refine RL.nil ?_
      (try simp (disch := omega) only [qR])
      ((repeat refine CWp.seq ?_); refine CWp.cnd good ?_ ?_)
      · intro _
        (refine CWp.skip ?_; (try simp (disch := omega) only [qR]))
        ((repeat refine CWp.seq ?_); refine CWp.block ?_)
        ((repeat refine CWp.seq ?_); refine CWp.region ?_)
        repeat (first | refine RL.w good ?_ | refine RL.k ?_)
        (refine' RL.c good ?_ ?_ ?_; rotate_left)
        · exact f39s.calls A2
        · rintro v h3 p3
          have e := p3.1
          cases e
          refine RL.nil ?_
          (try simp (disch := omega) only [qR])
          ((repeat refine CWp.seq ?_); refine CWp.region ?_)
          repeat (first | refine RL.w good ?_ | refine RL.k ?_)
          refine RL.nil ?_
          (try simp only [roundR_normal])
          refine ⟨(2, h3), .inr (.inr ⟨rfl, K2 _ _ p3⟩), by simp, tl_less (by simp [lk]), rfl⟩
        · rintro v h2 p2; cases p2.1
      · intro hc; cases hc
    · simp only at hi I2 ⊢
      subst hi
      ((repeat refine CWp.seq ?_); refine CWp.region ?_)
      repeat (first | refine RL.w good ?_ | refine RL.k ?_)
      refine RL.nil ?_
      (try simp (disch := omega) only [qR])
      ((repeat refine CWp.seq ?_); refine CWp.cnd good ?_ ?_)
      · intro hc; cases hc
      · intro _
        (refine CWp.exit ?_; (try simp (disch := omega) only [qR]))
        (try simp only [roundR_exit])
        ((try simp (disch := omega) only [qR]); refine nmQ ?_; (try simp only [oneV]))
        exact I2
set_option maxHeartbeats 4000000 in
theorem f12s : SeeOK Tryz.prog 58 3 9 12 (.sl 2 (.seq .int 1 .int)) := by
  refine SeeOK.of fun h b o be E n0 s0 ns ss m a0 A => ?_
  have hb := (A.dis b o (.inl ⟨rfl, rfl⟩)).2
  obtain ⟨ad, n, cp, b2, o2, f, g, hc, hs2, A1, K1⟩ := A.sl
  obtain ⟨c, ro, el, hgb, hco⟩ := cellOf_spec hc
  (refine ACalls.bodyB (fn := Tryz.f12) (ng := 4) (N := 9) (res := []) (by kernel_rfl) rfl rfl rfl (by kernel_rfl) (fun En hs => ?_); simp only [argsL, Nat.reduceAdd])
  clear hs
  ((repeat refine CWp.seq ?_); refine CWp.region ?_)
  repeat (first | refine RL.w good ?_ | refine RL.k ?_)
  (refine' RL.c good ?_ ?_ ?_; rotate_left)
  · rw [ov_self En.lt]; exact f43s (en (by kernel_rfl)) f44s h ad n cp b2 o2 be E n0 s0 f g m a0 hs2 A1 A.eye
  · rintro v h1 ⟨e, p1⟩
    cases e
    refine RL.nil ?_
    (try simp (disch := omega) only [qR])
    ((try simp (disch := omega) only [qR]); refine nmQ ?_; (try simp only [oneV]))
    exact K1 _ p1
  · rintro v h2 p2; cases p2.1
end Go.Ab
