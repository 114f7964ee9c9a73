/- A part of the proof of a law over a given program: E2, E3, E4. -/
import Derived.Test.YtckgcmgnpblnaaaGreatDoorT14
import Derived.Test.YtckgcmgnpblnaaaGreatDoorT17
import Derived.Test.YtckgcmgnpblnaaaGreatDoorT22
set_option linter.unusedVariables false
set_option linter.unusedSimpArgs false
namespace Go.Ab
open Go.Proofs
set_option maxRecDepth 10000
attribute [local push_cast] ldN_lowU ov_low takeN_one Option.toList_some Nat.mul_one Nat.add_zero Nat.zero_add
/-- a slice at the front of its block, or none -/
def SlV (h : Hp) (v : Value) (cs : List Value) : Prop := ∃ a c, v = .slice a cs.length c ∧ ((a = none ∧ cs.length = 0) ∨ ∃ nb e, a = some ⟨nb, 0, none⟩ ∧ nb < h.next ∧ h.get nb = some (.cells cs false e))
theorem strsV_length (l : List ByteArray) : (strsV l).length = l.length := by simp [strsV]
theorem bytesEq_self (x : ByteArray) : bytesEq x x = true := by unfold bytesEq; simp
attribute [local push_cast] bytesEq_self
theorem lenA_slG {E : Nat → Option TI} {get : Nat → Option AObj} {t : Nat} {a : Option Addr} {n c e : Nat} (h : ∃ i, E t = some i ∧ i.k = .sl e) : lenA E get t (.slice a n c) = some (goInt n) := by
  obtain ⟨i, h1, h2⟩ := h
  obtain ⟨k, _, _, _, _⟩ := i
  simp only at h2
  subst h2
  unfold lenA
  rw [h1]
set_option maxHeartbeats 4000000 in
theorem f34s {h : Hp} {nv sv : Value} {ns : List Int} {ss : List ByteArray} {m : Bool} {a : Int} (hn : SlV h nv (ints ns)) (hs1 : SlV h sv (strsV ss)) (l1 : ns.length ≤ 10000000) (l2 : ss.length ≤ 10000000) :
    ACalls Tryz.prog 34 [.agg #[nv, sv, .bool m, .int .i64 a]] (fun e h' => (∃ t, e = .ret (.bool t) ∧ (t = false → ns.length ≤ 200)) ∧ h' = h) h := by
  obtain ⟨an, cn, rfl, hn⟩ := hn
  obtain ⟨asl, cs, rfl, hs1⟩ := hs1
  rw [ints_length, strsV_length] at *
  (refine ACalls.bodyB (fn := Tryz.f34) (ng := 4) (N := 27) (res := [.tmp 2]) (by kernel_rfl) rfl rfl rfl (by kernel_rfl) (fun En hs => ?_); simp only [argsL, Nat.reduceAdd])
  clear hs
  ((repeat refine CWp.seq ?_); refine CWp.region ?_)
  repeat (first | refine RL.w good ?_ | refine RL.k ?_)
  refine RL.nil ?_
  (try simp (disch := omega) only [qR])
  ((repeat refine CWp.seq ?_); refine CWp.region ?_)
  repeat (first | refine RL.w good ?_ | refine RL.k ?_)
  refine RL.nil ?_
  (try simp (disch := omega) only [qR])
  ((repeat refine CWp.seq ?_); refine CWp.region ?_)
  repeat (first | refine RL.w good ?_ | refine RL.k ?_)
  refine RL.nil ?_
  (try simp (disch := omega) only [qR])
  ((repeat refine CWp.seq ?_); refine CWp.block ?_)
  refine CWp.loopR (α := Nat × Int) (fun s => (tl [(4, .int .i64 s.1), (3, .int .i64 s.2), (2, .bool false), (1, .pointer (some ⟨loc h 0, 0, none⟩))], Ab.ov h [] [(0, .cells [.slice an ns.length cn, .slice asl ss.length cs, .bool m, .int .i64 a] false 58)] 1)) (fun s => ss.length - s.1) (fun s => s.1 ≤ ss.length ∧ 0 ≤ s.2 ∧ s.2 ≤ 2000) (0, 0) ⟨Nat.zero_le _, by decide, by decide⟩ ?_ rfl ?_
  · exact tl_less (by simp [lk])
  · rintro ⟨i, acc⟩ ⟨hi, h0, h1⟩
    simp only at hi h0 h1 ⊢
    ((repeat refine CWp.seq ?_); refine CWp.region ?_)
    repeat (first | refine RL.w good ?_ | refine RL.k ?_)
    refine RL.nil ?_
    (try simp (disch := omega) only [qR])
    ((repeat refine CWp.seq ?_); refine CWp.cnd good ?_ ?_)
    · (intro hc; (try simp only [decide_eq_true_eq, decide_eq_false_iff_not, Bool.not_eq_true, Bool.not_eq_false, Int.not_lt, Int.not_le, bne_iff_ne, beq_iff_eq, ne_eq, Bool.not_eq_eq_eq_not, Bool.not_true, Bool.not_false] at hc))
      (refine CWp.skip ?_; (try simp (disch := omega) only [qR]))
      have hin : i < ss.length := by omega
      rcases hs1 with ⟨_, hs1⟩ | ⟨sb, se, rfl, hsb, hgs⟩
      · omega
      obtain ⟨x, hx⟩ : ∃ x, (strsV ss)[i]? = some (.string x) := ⟨ss[i], by simp [strsV, hin]⟩
      obtain ⟨d, hd, hd0, hd1⟩ : ∃ d, (bif decide ((3000 : Int) < x.size) then (3000 : Int) else (x.size : Int)) = d ∧ 0 ≤ d ∧ d ≤ 3000 := by
        refine ⟨_, rfl, ?_⟩
        cases hc2 : decide ((3000 : Int) < x.size) with
        | true => exact ⟨by simp, by simp⟩
        | false => have := of_decide_eq_false hc2; simp only [cond_false]; omega
      ((repeat refine CWp.seq ?_); refine CWp.block ?_)
      ((repeat refine CWp.seq ?_); refine CWp.region ?_)
      repeat (first | refine RL.w good ?_ | refine RL.k ?_)
      refine RL.nil ?_
      (try simp (disch := omega) only [qR])
      ((repeat refine CWp.seq ?_); refine CWp.region ?_)
      repeat (first | refine RL.w good ?_ | refine RL.k ?_)
      refine RL.nil ?_
      (try simp (disch := omega) only [qR])
      ((repeat refine CWp.seq ?_); refine CWp.cnd good ?_ ?_)
      · intro _
        ((repeat refine CWp.seq ?_); refine CWp.region ?_)
        repeat (first | refine RL.w good ?_ | refine RL.k ?_)
        refine RL.nil ?_
        (try simp (disch := omega) only [qR])
        (refine CWp.ret ?_; (try simp (disch := omega) only [qR]); refine rtB ?_; (try simp only [oneV]))
        exact EndB.plain En rfl ⟨⟨_, rfl, fun hc => by cases hc⟩, rfl⟩
      · (intro hc; (try simp only [decide_eq_true_eq, decide_eq_false_iff_not, Bool.not_eq_true, Bool.not_eq_false, Int.not_lt, Int.not_le, bne_iff_ne, beq_iff_eq, ne_eq, Bool.not_eq_eq_eq_not, Bool.not_true, Bool.not_false] at hc))
        (refine CWp.skip ?_; (try simp (disch := omega) only [qR]))
        ((repeat refine CWp.seq ?_); refine CWp.region ?_)
        repeat (first | refine RL.w good ?_ | refine RL.k ?_)
        refine RL.nil ?_
        (try simp only [roundR_normal])
        refine ⟨(i + 1, acc + d), ⟨hin, by omega, by omega⟩, by simp only; omega, tl_less (by simp [lk]), by trivial⟩
    · (intro hc; (try simp only [decide_eq_true_eq, decide_eq_false_iff_not, Bool.not_eq_true, Bool.not_eq_false, Int.not_lt, Int.not_le, bne_iff_ne, beq_iff_eq, ne_eq, Bool.not_eq_eq_eq_not, Bool.not_true, Bool.not_false] at hc))
      (refine CWp.exit ?_; (try simp (disch := omega) only [qR]))
      (try simp only [roundR_exit])
      (try simp (disch := omega) only [qR])
      ((repeat refine CWp.seq ?_); refine CWp.region ?_)
      repeat (first | refine RL.w good ?_ | refine RL.k ?_)
      refine RL.nil ?_
      (try simp (disch := omega) only [qR])
      (refine CWp.ret ?_; (try simp (disch := omega) only [qR]); refine rtB ?_; (try simp only [oneV]))
      exact EndB.plain En rfl ⟨⟨_, rfl, fun hc => by have := of_decide_eq_false hc; omega⟩, rfl⟩

set_option maxHeartbeats 4000000 in
theorem f36s {h : Hp} {nv sv nv2 sv2 : Value} {ns : List Int} {ss : List ByteArray} {m m2 : Bool} {a a2 : Int} (hn : SlV h nv (ints ns)) (hs1 : SlV h sv (strsV ss)) (hn2 : SlV h nv2 (ints ns)) (hs2 : SlV h sv2 (strsV ss)) (l1 : ns.length ≤ 10000000) (l2 : ss.length ≤ 10000000) :
    ACalls Tryz.prog 36 [.agg #[nv, sv, .bool m, .int .i64 a], .agg #[nv2, sv2, .bool m2, .int .i64 a2]] (fun e h' => e = .ret (.bool true) ∧ h' = h) h := by
  obtain ⟨an, cn, rfl, hn⟩ := hn
  obtain ⟨asl, cs, rfl, hs1⟩ := hs1
  obtain ⟨an2, cn2, rfl, hn2⟩ := hn2
  obtain ⟨asl2, cs2, rfl, hs2⟩ := hs2
  rw [ints_length, strsV_length] at *
  (refine ACalls.bodyB (fn := Tryz.f36) (ng := 4) (N := 59) (res := [.tmp 4]) (by kernel_rfl) rfl rfl rfl (by kernel_rfl) (fun En hs => ?_); simp only [argsL, Nat.reduceAdd])
  clear hs
  ((repeat refine CWp.seq ?_); refine CWp.region ?_)
  repeat (first | refine RL.w good ?_ | refine RL.k ?_)
  refine RL.nil ?_
  (try simp (disch := omega) only [qR])
  ((repeat refine CWp.seq ?_); refine CWp.region ?_)
  repeat (first | refine RL.w good ?_ | refine RL.k ?_)
  refine RL.nil ?_
  (try simp (disch := omega) only [qR])
  ((repeat refine CWp.seq ?_); refine CWp.cnd good ?_ ?_)
  · intro hc; cases hc
  intro _
  (refine CWp.skip ?_; (try simp (disch := omega) only [qR]))
  ((repeat refine CWp.seq ?_); refine CWp.region ?_)
  repeat (first | refine RL.w good ?_ | refine RL.k ?_)
  refine RL.nil ?_
  (try simp (disch := omega) only [qR])
  (repeat refine CWp.seq ?_)
  refine CWp.block ?_
  refine CWp.loopR (α := Nat) (fun s => (tl [(5, .int .i64 s), (4, .bool false), (3, .pointer (some ⟨loc h 1, 0, none⟩)), (2, .pointer (some ⟨loc h 0, 0, none⟩))], Ab.ov h [] [(1, .cells [.slice an2 ns.length cn2, .slice asl2 ss.length cs2, .bool m2, .int .i64 a2] false 58), (0, .cells [.slice an ns.length cn, .slice asl ss.length cs, .bool m, .int .i64 a] false 58)] 2)) (fun s => ns.length - s) (fun s => s ≤ ns.length) 0 (Nat.zero_le _) ?_ rfl ?_
  · exact tl_less (by simp [lk])
  intro i hi
  simp only at hi ⊢
  ((repeat refine CWp.seq ?_); refine CWp.region ?_)
  repeat (first | refine RL.w good ?_ | refine RL.k ?_)
  refine RL.nil ?_
  (try simp (disch := omega) only [qR])
  ((repeat refine CWp.seq ?_); refine CWp.cnd good ?_ ?_)
  · (intro hc; (try simp only [decide_eq_true_eq, decide_eq_false_iff_not, Bool.not_eq_true, Bool.not_eq_false, Int.not_lt, Int.not_le, bne_iff_ne, beq_iff_eq, ne_eq, Bool.not_eq_eq_eq_not, Bool.not_true, Bool.not_false] at hc))
    (refine CWp.skip ?_; (try simp (disch := omega) only [qR]))
    have hin : i < ns.length := by omega
    rcases hn with ⟨_, hn⟩ | ⟨nb, ne, rfl, hnb, hgn⟩
    · omega
    rcases hn2 with ⟨_, hn2⟩ | ⟨nb2, ne2, rfl, hnb2, hgn2⟩
    · omega
    obtain ⟨x, hx⟩ : ∃ x, (ints ns)[i]? = some (.int .i64 x) := ⟨ns[i], by simp [ints, hin]⟩
    refine CWp.seq ?_
    refine CWp.block ?_
    ((repeat refine CWp.seq ?_); refine CWp.drawI good (fun g => memN g []) [(0, true), (1, true), (2, true), (3, true), (4, true), (5, true), (6, true), (7, true), (8, true), (9, true), (10, true)] (by kernel_rfl) (fun _ _ _ q => q) ?_)
    repeat (first | refine PL.w ?_ | refine PL.wk ?_ | refine PL.ew ?_ | refine PL.ewk ?_)
    refine PL.nil ?_
    (try simp (disch := omega) only [qR])
    ((repeat refine CWp.seq ?_); refine CWp.cnd good ?_ ?_)
    · intro hc; cases hc
    · (intro hc; (try simp only [decide_eq_true_eq, decide_eq_false_iff_not, Bool.not_eq_true, Bool.not_eq_false, Int.not_lt, Int.not_le, bne_iff_ne, beq_iff_eq, ne_eq, Bool.not_eq_eq_eq_not, Bool.not_true, Bool.not_false] at hc))
      (refine CWp.skip ?_; (try simp (disch := omega) only [qR]))
      ((repeat refine CWp.seq ?_); refine CWp.region ?_)
      repeat (first | refine RL.w good ?_ | refine RL.k ?_)
      refine RL.nil ?_
      (try simp (disch := omega) only [qR])
      refine ⟨i + 1, hin, by omega, tl_less (by simp [lk]), by trivial⟩
  · (intro hc; (try simp only [decide_eq_true_eq, decide_eq_false_iff_not, Bool.not_eq_true, Bool.not_eq_false, Int.not_lt, Int.not_le, bne_iff_ne, beq_iff_eq, ne_eq, Bool.not_eq_eq_eq_not, Bool.not_true, Bool.not_false] at hc))
    (refine CWp.exit ?_; (try simp (disch := omega) only [qR]))
    ((repeat refine CWp.seq ?_); refine CWp.region ?_)
    repeat (first | refine RL.w good ?_ | refine RL.k ?_)
    refine RL.nil ?_
    (try simp (disch := omega) only [qR])
    ((repeat refine CWp.seq ?_); refine CWp.block ?_)
    refine CWp.loopR (α := Nat) (fun s => (tl [(6, .int .i64 s), (4, .bool false), (3, .pointer (some ⟨loc h 1, 0, none⟩)), (2, .pointer (some ⟨loc h 0, 0, none⟩))], Ab.ov h [] [(1, .cells [.slice an2 ns.length cn2, .slice asl2 ss.length cs2, .bool m2, .int .i64 a2] false 58), (0, .cells [.slice an ns.length cn, .slice asl ss.length cs, .bool m, .int .i64 a] false 58)] 2)) (fun s => ss.length - s) (fun s => s ≤ ss.length) 0 (Nat.zero_le _) ?_ rfl ?_
    · exact tl_less (by simp [lk])
    intro i hi
    simp only at hi ⊢
    ((repeat refine CWp.seq ?_); refine CWp.region ?_)
    repeat (first | refine RL.w good ?_ | refine RL.k ?_)
    refine RL.nil ?_
    (try simp (disch := omega) only [qR])
    ((repeat refine CWp.seq ?_); refine CWp.cnd good ?_ ?_)
    · (intro hc; (try simp only [decide_eq_true_eq, decide_eq_false_iff_not, Bool.not_eq_true, Bool.not_eq_false, Int.not_lt, Int.not_le, bne_iff_ne, beq_iff_eq, ne_eq, Bool.not_eq_eq_eq_not, Bool.not_true, Bool.not_false] at hc))
      (refine CWp.skip ?_; (try simp (disch := omega) only [qR]))
      have hin : i < ss.length := by omega
      rcases hs1 with ⟨_, hs1⟩ | ⟨nb, ne, rfl, hnb, hgn⟩
      · omega
      rcases hs2 with ⟨_, hs2⟩ | ⟨nb2, ne2, rfl, hnb2, hgn2⟩
      · omega
      obtain ⟨x, hx⟩ : ∃ x, (strsV ss)[i]? = some (.string x) := ⟨ss[i], by simp [strsV, hin]⟩
      refine CWp.seq ?_
      refine CWp.block ?_
      ((repeat refine CWp.seq ?_); refine CWp.drawI good (fun g => memN g []) [(0, true), (1, true), (2, true), (3, true), (4, true), (5, true), (6, true), (7, true), (8, true), (9, true), (10, true)] (by kernel_rfl) (fun _ _ _ q => q) ?_)
      repeat (first | refine PL.w ?_ | refine PL.wk ?_ | refine PL.ew ?_ | refine PL.ewk ?_)
      refine PL.nil ?_
      (try simp (disch := omega) only [qR])
      ((repeat refine CWp.seq ?_); refine CWp.cnd good ?_ ?_)
      · intro hc; cases hc
      · (intro hc; (try simp only [decide_eq_true_eq, decide_eq_false_iff_not, Bool.not_eq_true, Bool.not_eq_false, Int.not_lt, Int.not_le, bne_iff_ne, beq_iff_eq, ne_eq, Bool.not_eq_eq_eq_not, Bool.not_true, Bool.not_false] at hc))
        (refine CWp.skip ?_; (try simp (disch := omega) only [qR]))
        ((repeat refine CWp.seq ?_); refine CWp.region ?_)
        repeat (first | refine RL.w good ?_ | refine RL.k ?_)
        refine RL.nil ?_
        (try simp (disch := omega) only [qR])
        refine ⟨i + 1, hin, by omega, tl_less (by simp [lk]), by trivial⟩
    · (intro hc; (try simp only [decide_eq_true_eq, decide_eq_false_iff_not, Bool.not_eq_true, Bool.not_eq_false, Int.not_lt, Int.not_le, bne_iff_ne, beq_iff_eq, ne_eq, Bool.not_eq_eq_eq_not, Bool.not_true, Bool.not_false] at hc))
      (refine CWp.exit ?_; (try simp (disch := omega) only [qR]))
      ((repeat refine CWp.seq ?_); refine CWp.region ?_)
      repeat (first | refine RL.w good ?_ | refine RL.k ?_)
      refine RL.nil ?_
      (try simp (disch := omega) only [qR])
      (refine CWp.ret ?_; (try simp (disch := omega) only [qR]); refine rtB ?_; (try simp only [oneV]))
      exact EndB.plain En rfl ⟨rfl, rfl⟩
end Go.Ab
namespace Go.Ab
open Go.Proofs
set_option maxRecDepth 10000
attribute [local push_cast] ldN_lowU ov_low takeN_one Option.toList_some Nat.mul_one Nat.add_zero Nat.zero_add
theorem goIntI (n : Int) : goInt n = .int .i64 n := rfl
theorem wrap1 : IntKind.i64.wrap 1 = 1 := by decide
attribute [local push_cast] goIntI Int.zero_add wrap1
theorem cellOf_ext {h h' : Hp} (x : Ext h h') {b o : Nat} (hb : b < h.next) : cellOf h' b o = cellOf h b o := by unfold cellOf; rw [x.2 b hb]
theorem Thing.ext {h h' : Hp} {t : SeeTy} {b : Nat} {Z : Nat → Prop} {ns : List Int} {ss : List ByteArray} (T : Thing h t b Z ns ss) (hZ : ∀ x, Z x → x < h.next) (x : Ext h h') : Thing h' t b Z ns ss := by
  have hst : ∀ x y, Foot h t b 0 x y → cellOf h' x y = cellOf h x y := fun a y hf => cellOf_ext x (hZ _ (T.foot a y hf))
  have hF : ∀ {x y}, (Foot h' t b 0 x y ↔ Foot h t b 0 x y) := fun {x y} => Foot.hdr fun x y hx => hst x y hx.foot
  exact ⟨T.rep.stay hst, fun x y hf => T.foot x y (hF.1 hf), T.na.hdr fun x y hx => hst x y hx.foot, fun a y hf => by
    obtain ⟨c, e, k⟩ := T.wr a y (hF.1 hf)
    exact ⟨c, e, by rw [x.2 a (hZ _ (T.foot a y (hF.1 hf)))]; exact k⟩, T.ln, T.ls⟩
theorem Thing.pre {h : Hp} {t : SeeTy} {b : Nat} {Z : Nat → Prop} {ns : List Int} {ss : List ByteArray} (T : Thing h t b Z ns ss) {be : Nat} {E : Nat → Prop} {n0 : List Int} {s0 : List ByteArray} {m : Bool} {a0 : Int} (eye : Eye 58 3 9 h be E n0 s0 m a0) (hE : ∀ x, Z x → ¬ E x ∧ x < h.next)
    (l1 : n0.length ≤ 900000) (l2 : s0.length ≤ 900000) (l3 : 0 ≤ a0 ∧ a0 ≤ 1000000000) : SeePre 58 3 9 t h b 0 be E n0 s0 ns ss m a0 :=
  ⟨T.rep, eye, fun x y hf => hE x (T.foot x y hf), fun _ => T.na, fun _ => T.wr, by have := T.ln; omega, by have := T.ls; omega, by have := T.ln; have := T.ls; omega⟩
theorem Eye.fresh {L : List (Nat × AObj)} {k j : Nat} {h : Hp} {m : Bool} {a0 : Int} {E : Nat → Prop} (hj : j < k) (hL : lk L j = some (.cells [.slice none 0 0, .slice none 0 0, .bool m, .int .i64 a0] false 58)) (hE : E (loc h j)) : Eye 58 3 9 (Ab.ov h [] L k) (loc h j) E [] [] m a0 :=
  ⟨_, _, by rw [ov_loc]; exact hL, by rw [ov_next, loc_lt]; exact hj, hE, .inl ⟨rfl, rfl⟩, .inl ⟨rfl, rfl⟩, fun _ _ _ _ _ _ h => by cases h⟩
/-- where a look leaves the old alone -/
theorem Fr1.ext {h h1 h2 : Hp} {E : Nat → Prop} {S : Nat → Nat → Prop} (x : Ext h h1) (F : Fr1 h1 h2 E S) (hE : ∀ i, E i → h.next ≤ i) (hS : ∀ i o, S i o → h.next ≤ i) : Ext h h2 :=
  ⟨Nat.le_trans x.1 F.nx, fun i hi => (F.blk i (Nat.lt_of_lt_of_le hi x.1) (fun q => by have := hE i q; omega) (fun o q => by have := hS i o q; omega)).trans (x.2 i hi)⟩
def Looked (h0 h' : Hp) (v : Value) : Option (List Int × List ByteArray) → Prop
  | none => ∃ a c, v = .slice a 0 c
  | some (ns, ss) => ∃ eb at', v = .slice (some ⟨eb, 0, none⟩) 1 1 ∧ Eye 58 3 9 h' eb (fun x => h0.next ≤ x ∧ x < h'.next) ns ss false at'
set_option maxHeartbeats 4000000 in
theorem f35n (h : Hp) : ACalls Tryz.prog 35 [.slice none 0 0] (fun e h' => ∃ v, e = .ret v ∧ Looked h h' v none ∧ Ext h h') h := by
  (refine ACalls.bodyB (fn := Tryz.f35) (ng := 4) (N := 23) (res := [.tmp 2]) (by kernel_rfl) rfl rfl rfl (by kernel_rfl) (fun En hs => ?_); simp only [argsL, Nat.reduceAdd])
  clear hs
  ((repeat refine CWp.seq ?_); refine CWp.region ?_)
  repeat (first | refine RL.w good ?_ | refine RL.k ?_)
  refine RL.nil ?_
  (try simp (disch := omega) only [qR])
  ((repeat refine CWp.seq ?_); refine CWp.region ?_)
  repeat (first | refine RL.w good ?_ | refine RL.k ?_)
  refine RL.nil ?_
  (try simp (disch := omega) only [qR])
  ((repeat refine CWp.seq ?_); refine CWp.region ?_)
  repeat (first | refine RL.w good ?_ | refine RL.k ?_)
  refine RL.nil ?_
  (try simp (disch := omega) only [qR])
  ((repeat refine CWp.seq ?_); refine CWp.block ?_)
  refine CWp.loopR (α := Unit) (fun _ => (tl [(4, .int .i64 0), (3, .slice (some ⟨loc h 0, 0, none⟩) 0 0), (0, .slice none 0 0)], Ab.ov h [] [(0, .cells [] false 58)] 1)) (fun _ => 0) (fun _ => True) () trivial ?_ rfl ?_
  · exact tl_less (by simp [lk])
  · intro s _
    ((repeat refine CWp.seq ?_); refine CWp.region ?_)
    repeat (first | refine RL.w good ?_ | refine RL.k ?_)
    refine RL.nil ?_
    (try simp (disch := omega) only [qR])
    ((repeat refine CWp.seq ?_); refine CWp.cnd good ?_ ?_)
    · intro hc; cases hc
    · intro _
      (refine CWp.exit ?_; (try simp (disch := omega) only [qR]))
      ((repeat refine CWp.seq ?_); refine CWp.region ?_)
      repeat (first | refine RL.w good ?_ | refine RL.k ?_)
      refine RL.nil ?_
      (try simp (disch := omega) only [qR])
      (refine CWp.ret ?_; (try simp (disch := omega) only [qR]); refine rtQ ?_; (try simp only [oneV]))
      exact ⟨_, rfl, ⟨_, _, rfl⟩, .ov⟩
set_option maxHeartbeats 4000000 in
theorem f35o (h : Hp) {gg : FuncId} {t : SeeTy} {lb b : Nat} {Z : Nat → Prop} {ns : List Int} {ss : List ByteArray} {ro : Bool} {el : Nat} (ent : Enters Tryz.prog gg) (K : SeeOK Tryz.prog 58 3 9 gg t) (hlb : lb < h.next) (hgl : h.get lb = some (.cells [.func (.func gg) #[] #[.pointer (some ⟨b, 0, none⟩)]] ro el)) (T : Thing h t b Z ns ss) (hZ : ∀ x, Z x → x < h.next) :
    ACalls Tryz.prog 35 [.slice (some ⟨lb, 0, none⟩) 1 1] (fun e h' => ∃ v, e = .ret v ∧ Looked h h' v (some (ns, ss)) ∧ Ext h h') h := by
  (refine ACalls.bodyB (fn := Tryz.f35) (ng := 4) (N := 23) (res := [.tmp 2]) (by kernel_rfl) rfl rfl rfl (by kernel_rfl) (fun En hs => ?_); simp only [argsL, Nat.reduceAdd])
  clear hs
  ((repeat refine CWp.seq ?_); refine CWp.region ?_)
  repeat (first | refine RL.w good ?_ | refine RL.k ?_)
  refine RL.nil ?_
  (try simp (disch := omega) only [qR])
  ((repeat refine CWp.seq ?_); refine CWp.region ?_)
  repeat (first | refine RL.w good ?_ | refine RL.k ?_)
  refine RL.nil ?_
  (try simp (disch := omega) only [qR])
  ((repeat refine CWp.seq ?_); refine CWp.region ?_)
  repeat (first | refine RL.w good ?_ | refine RL.k ?_)
  refine RL.nil ?_
  (try simp (disch := omega) only [qR])
  ((repeat refine CWp.seq ?_); refine CWp.block ?_)
  have x1 : Ext h (Ab.ov h [] [(0, AObj.cells [.slice none 0 0, .slice none 0 0, .bool false, .int .i64 0] false 58)] 1) := .ov
  have hn1 : h.next < (Ab.ov h [] [(0, AObj.cells [.slice none 0 0, .slice none 0 0, .bool false, .int .i64 0] false 58)] 1).next := by rw [ov_next]; unfold loc; omega
  have hl0 : h.next ≤ loc h 0 ∧ loc h 0 ≤ h.next := by unfold loc; simp
  have eye : Eye 58 3 9 (Ab.ov h [] [(0, AObj.cells [.slice none 0 0, .slice none 0 0, .bool false, .int .i64 0] false 58)] 1) (loc h 0) (fun x => x = loc h 0) [] [] false 0 := .fresh (by decide) rfl rfl
  have T1 := T.ext hZ x1
  have A := T1.pre eye (fun x hx => ⟨by have := hZ x hx; omega, by have := hZ x hx; omega⟩) (by simp) (by simp) (by simp)
  refine CWp.loopR (α := Nat × Hp) (fun s => (tl [(4, .int .i64 s.1), (3, .slice (some ⟨loc h 0, 0, none⟩) 1 1), (0, .slice (some ⟨lb, 0, none⟩) 1 1)], s.2)) (fun s => 1 - s.1) (fun s => (s.1 = 0 ∧ s.2 = Ab.ov h [] [(0, AObj.cells [.slice none 0 0, .slice none 0 0, .bool false, .int .i64 0] false 58)] 1) ∨ (s.1 = 1 ∧ Looked h s.2 (.slice (some ⟨loc h 0, 0, none⟩) 1 1) (some (ns, ss)) ∧ Ext h s.2)) (0, _) (.inl ⟨rfl, rfl⟩) ?_ rfl ?_
  · exact tl_less (by simp [lk])
  · rintro ⟨i, h2⟩ hi
    rcases hi with ⟨hi, e⟩ | ⟨hi, I1, x2⟩
    · simp only at hi e ⊢
      subst hi e
      ((repeat refine CWp.seq ?_); refine CWp.region ?_)
      repeat (first | refine RL.w good ?_ | refine RL.k ?_)
      refine RL.nil ?_
      (try simp (disch := omega) only [qR])
      ((repeat refine CWp.seq ?_); refine CWp.cnd good ?_ ?_)
      · intro _
        (refine CWp.skip ?_; (try simp (disch := omega) only [qR]))
        (repeat refine CWp.seq ?_)
        refine CWp.block ?_
        ((repeat refine CWp.seq ?_); refine CWp.drawI good (fun g => memN g []) [(0, true), (1, true), (2, true), (3, true), (4, true), (5, true), (6, true), (7, false)] (by kernel_rfl) (fun _ _ _ q => q) ?_)
        repeat (first | refine PL.w ?_ | refine PL.wk ?_ | refine PL.ew ?_ | refine PL.ewk ?_)
        (apply PL.efcall; (· (first | exact rfl | (simp only [push_cast, reduceIte, Nat.reduceEqDiff, *]; done) | (simp only [push_cast, reduceIte, Nat.reduceEqDiff, *]; exact rfl))); (· exact rfl); (· exact rfl); (· (simp (disch := omega) only [push_cast, reduceIte, Nat.reduceEqDiff, beq_self_eq_true, bne_self_eq_false, Int.reduceBEq, Int.reduceBNe, Int.reduceLT, Int.reduceLE, Nat.reduceAdd, Nat.reduceMul, Nat.reduceSub, Int.reduceToNat, Nat.reducePow, Int.reducePow, *] <;> exact rfl)); (· exact ent); (· (simp (disch := omega) only [push_cast, reduceIte, Nat.reduceEqDiff, beq_self_eq_true, bne_self_eq_false, Int.reduceBEq, Int.reduceBNe, Int.reduceLT, Int.reduceLE, Nat.reduceAdd, Nat.reduceMul, Nat.reduceSub, Int.reduceToNat, Nat.reducePow, Int.reducePow, *] <;> exact rfl)))
        · exact K.calls A
        · rintro v h3 p3
          obtain ⟨e, ns', ss', at', eye', _, q1, _, _, F⟩ := p3
          cases e
          obtain ⟨rfl, rfl⟩ := q1 rfl
          refine ⟨by (· ((repeat (first | exact ReF.nil | refine ReF.dep (by exact rfl) ?_ | (apply ReF.op; (· (simp (disch := omega) only [push_cast, reduceIte, Nat.reduceEqDiff, beq_self_eq_true, bne_self_eq_false, Int.reduceBEq, Int.reduceBNe, Int.reduceLT, Int.reduceLE, Nat.reduceAdd, Nat.reduceMul, Nat.reduceSub, Int.reduceToNat, Nat.reducePow, Int.reducePow, *] <;> exact rfl))))))), ?_⟩
          repeat (first | refine PL.w ?_ | refine PL.wk ?_ | refine PL.ew ?_ | refine PL.ewk ?_)
          refine PL.nil ?_
          (try simp (disch := omega) only [qR])
          ((repeat refine CWp.seq ?_); refine CWp.region ?_)
          repeat (first | refine RL.w good ?_ | refine RL.k ?_)
          refine RL.nil ?_
          (try simp (disch := omega) only [qR])
          have x3 : Ext h h3 := Fr1.ext x1 F (fun i hi => by omega) (fun i o hi => by cases hi.1)
          refine ⟨(1, h3), .inr ⟨rfl, ⟨loc h 0, at', rfl, eye'.mono fun x hx => ?_⟩, x3⟩, by simp, tl_less (by simp [lk]), by trivial⟩
          have := F.nx
          simp only
          rcases hx with hx | hx
          · omega
          · omega
        · rintro v h2 p2; cases p2.1
      · intro hc; cases hc
    · simp only at hi I1 x2 ⊢
      subst hi
      ((repeat refine CWp.seq ?_); refine CWp.region ?_)
      repeat (first | refine RL.w good ?_ | refine RL.k ?_)
      refine RL.nil ?_
      (try simp (disch := omega) only [qR])
      ((repeat refine CWp.seq ?_); refine CWp.cnd good ?_ ?_)
      · intro hc; cases hc
      · intro _
        (refine CWp.exit ?_; (try simp (disch := omega) only [qR]))
        ((repeat refine CWp.seq ?_); refine CWp.region ?_)
        repeat (first | refine RL.w good ?_ | refine RL.k ?_)
        refine RL.nil ?_
        (try simp (disch := omega) only [qR])
        (refine CWp.ret ?_; (try simp (disch := omega) only [qR]); refine rtQ ?_; (try simp only [oneV]))
        exact ⟨_, rfl, I1, x2⟩
end Go.Ab
namespace Go.Ab
open Go.Proofs
set_option maxRecDepth 10000
attribute [local push_cast] ldN_lowU ov_low takeN_one Option.toList_some Nat.mul_one Nat.add_zero Nat.zero_add goIntI Int.zero_add wrap1
theorem OwnSl.slV {h : Hp} {E : Nat → Prop} {be el : Nat} {v : Value} {cs : List Value} (o : OwnSl h E be v cs el) : SlV h v cs := by
  rcases o with ⟨rfl, rfl⟩ | ⟨nb, rfl, h1, _, _, h2⟩
  · exact ⟨none, 0, rfl, .inl ⟨rfl, rfl⟩⟩
  · exact ⟨_, _, rfl, .inr ⟨nb, el, rfl, h1, h2⟩⟩
set_option maxHeartbeats 4000000 in
theorem f37n (h : Hp) (a : Option Addr) (c : Nat) (v : Value) (but : Int) : ACalls Tryz.prog 37 [.slice a 0 c, v, .int .i64 but] (fun e h' => e = .ret (.bool true) ∧ h' = h) h := by
  (refine ACalls.bodyB (fn := Tryz.f37) (ng := 4) (N := 29) (res := [.tmp 6]) (by kernel_rfl) rfl rfl rfl (by kernel_rfl) (fun En hs => ?_); simp only [argsL, Nat.reduceAdd])
  clear hs
  ((repeat refine CWp.seq ?_); refine CWp.region ?_)
  repeat (first | refine RL.w good ?_ | refine RL.k ?_)
  refine RL.nil ?_
  (try simp (disch := omega) only [qR])
  ((repeat refine CWp.seq ?_); refine CWp.region ?_)
  repeat (first | refine RL.w good ?_ | refine RL.k ?_)
  refine RL.nil ?_
  (try simp (disch := omega) only [qR])
  ((repeat refine CWp.seq ?_); refine CWp.block ?_)
  refine CWp.loopR (α := Unit) (fun _ => (tl [(7, .int .i64 0), (0, .slice a 0 c)], Ab.ov h [] [] 0)) (fun _ => 0) (fun _ => True) () trivial ?_ rfl ?_
  · exact tl_less (by simp [lk])
  · intro s _
    ((repeat refine CWp.seq ?_); refine CWp.region ?_)
    repeat (first | refine RL.w good ?_ | refine RL.k ?_)
    refine RL.nil ?_
    (try simp (disch := omega) only [qR])
    ((repeat refine CWp.seq ?_); refine CWp.cnd good ?_ ?_)
    · intro hc; cases hc
    · intro _
      (refine CWp.exit ?_; (try simp (disch := omega) only [qR]))
      ((repeat refine CWp.seq ?_); refine CWp.region ?_)
      repeat (first | refine RL.w good ?_ | refine RL.k ?_)
      refine RL.nil ?_
      (try simp (disch := omega) only [qR])
      (refine CWp.ret ?_; (try simp (disch := omega) only [qR]); refine rtB ?_; (try simp only [oneV]))
      exact EndB.plain En rfl ⟨rfl, rfl⟩
set_option maxHeartbeats 4000000 in
theorem f37o (h : Hp) {eb1 eb2 : Nat} {E1 E2 : Nat → Prop} {ns : List Int} {ss : List ByteArray} {at1 at2 : Int} {m1 m2 : Bool} (e1 : Eye 58 3 9 h eb1 E1 ns ss m1 at1) (e2 : Eye 58 3 9 h eb2 E2 ns ss m2 at2) (l1 : ns.length ≤ 10000000) (l2 : ss.length ≤ 10000000) :
    ACalls Tryz.prog 37 [.slice (some ⟨eb1, 0, none⟩) 1 1, .slice (some ⟨eb2, 0, none⟩) 1 1, .int .i64 (-1)] (fun e h' => e = .ret (.bool true) ∧ h' = h) h := by
  obtain ⟨nv1, sv1, g1, b1, _, o1, o2, _⟩ := e1
  obtain ⟨nv2, sv2, g2, b2, _, o3, o4, _⟩ := e2
  have K := f36s (m := m1) (m2 := m2) (a := at1) (a2 := at2) o1.slV o2.slV o3.slV o4.slV l1 l2
  obtain ⟨_, _, rfl, _⟩ := o1.slV
  obtain ⟨_, _, rfl, _⟩ := o2.slV
  obtain ⟨_, _, rfl, _⟩ := o3.slV
  obtain ⟨_, _, rfl, _⟩ := o4.slV
  clear o1 o2 o3 o4
  (refine ACalls.bodyB (fn := Tryz.f37) (ng := 4) (N := 29) (res := [.tmp 6]) (by kernel_rfl) rfl rfl rfl (by kernel_rfl) (fun En hs => ?_); simp only [argsL, Nat.reduceAdd])
  clear hs
  ((repeat refine CWp.seq ?_); refine CWp.region ?_)
  repeat (first | refine RL.w good ?_ | refine RL.k ?_)
  refine RL.nil ?_
  (try simp (disch := omega) only [qR])
  ((repeat refine CWp.seq ?_); refine CWp.region ?_)
  repeat (first | refine RL.w good ?_ | refine RL.k ?_)
  refine RL.nil ?_
  (try simp (disch := omega) only [qR])
  ((repeat refine CWp.seq ?_); refine CWp.block ?_)
  refine CWp.loopR (α := Nat) (fun s => (tl [(7, .int .i64 s), (0, .slice (some ⟨eb1, 0, none⟩) 1 1), (1, .slice (some ⟨eb2, 0, none⟩) 1 1), (2, .int .i64 (-1))], Ab.ov h [] [] 0)) (fun s => 1 - s) (fun s => s = 0 ∨ s = 1) 0 (.inl rfl) ?_ rfl ?_
  · exact tl_less (by simp [lk])
  · intro i hi
    rcases hi with rfl | rfl
    · ((repeat refine CWp.seq ?_); refine CWp.region ?_)
      repeat (first | refine RL.w good ?_ | refine RL.k ?_)
      refine RL.nil ?_
      (try simp (disch := omega) only [qR])
      ((repeat refine CWp.seq ?_); refine CWp.cnd good ?_ ?_)
      · intro _
        (refine CWp.skip ?_; (try simp (disch := omega) only [qR]))
        (repeat refine CWp.seq ?_)
        refine CWp.block ?_
        ((repeat refine CWp.seq ?_); refine CWp.drawI good (fun g => memN g [36]) [(0, true), (1, true), (2, true), (3, true), (4, true), (5, true), (6, true), (7, true), (8, true), (9, true), (10, true), (11, true), (12, true), (13, true), (14, true)] (by kernel_rfl) (fun _ _ _ q => q) ?_)
        repeat (first | refine PL.w ?_ | refine PL.wk ?_ | refine PL.ew ?_ | refine PL.ewk ?_)
        (apply PL.flcall; (· (first | exact rfl | (simp only [push_cast, reduceIte, Nat.reduceEqDiff, *]; done) | (simp only [push_cast, reduceIte, Nat.reduceEqDiff, *]; exact rfl))); (· (exact rfl)); (· (exact rfl)); (· (simp (disch := omega) only [push_cast, reduceIte, Nat.reduceEqDiff, beq_self_eq_true, bne_self_eq_false, Int.reduceBEq, Int.reduceBNe, Int.reduceLT, Int.reduceLE, Nat.reduceAdd, Nat.reduceMul, Nat.reduceSub, Int.reduceToNat, Nat.reducePow, Int.reducePow, *] <;> exact rfl)); (· (exact en (by kernel_rfl))); (· (simp (disch := omega) only [push_cast, reduceIte, Nat.reduceEqDiff, beq_self_eq_true, bne_self_eq_false, Int.reduceBEq, Int.reduceBNe, Int.reduceLT, Int.reduceLE, Nat.reduceAdd, Nat.reduceMul, Nat.reduceSub, Int.reduceToNat, Nat.reducePow, Int.reducePow, *] <;> exact rfl)))
        · rw [ov_self En.lt]; exact K
        simp only [push_cast] <;> exact rfl
        repeat (first | refine PL.w ?_ | refine PL.wk ?_ | refine PL.ew ?_ | refine PL.ewk ?_)
        refine PL.nil ?_
        (try simp (disch := omega) only [qR])
        ((repeat refine CWp.seq ?_); refine CWp.cnd good ?_ ?_)
        · intro hc; cases hc
        · (intro hc; (try simp only [decide_eq_true_eq, decide_eq_false_iff_not, Bool.not_eq_true, Bool.not_eq_false, Int.not_lt, Int.not_le, bne_iff_ne, beq_iff_eq, ne_eq, Bool.not_eq_eq_eq_not, Bool.not_true, Bool.not_false] at hc))
          (refine CWp.skip ?_; (try simp (disch := omega) only [qR]))
          ((repeat refine CWp.seq ?_); refine CWp.region ?_)
          repeat (first | refine RL.w good ?_ | refine RL.k ?_)
          refine RL.nil ?_
          (try simp (disch := omega) only [qR])
          refine ⟨1, .inr rfl, by simp, tl_less (by simp [lk]), by trivial⟩
      · intro hc; cases hc
    · ((repeat refine CWp.seq ?_); refine CWp.region ?_)
      repeat (first | refine RL.w good ?_ | refine RL.k ?_)
      refine RL.nil ?_
      (try simp (disch := omega) only [qR])
      ((repeat refine CWp.seq ?_); refine CWp.cnd good ?_ ?_)
      · intro hc; cases hc
      · intro _
        (refine CWp.exit ?_; (try simp (disch := omega) only [qR]))
        ((repeat refine CWp.seq ?_); refine CWp.region ?_)
        repeat (first | refine RL.w good ?_ | refine RL.k ?_)
        refine RL.nil ?_
        (try simp (disch := omega) only [qR])
        (refine CWp.ret ?_; (try simp (disch := omega) only [qR]); refine rtB ?_; (try simp only [oneV]))
        exact EndB.plain En rfl ⟨rfl, rfl⟩
set_option maxHeartbeats 4000000 in
theorem f37s (h : Hp) (a : Option Addr) (c : Nat) (v : Value) : ACalls Tryz.prog 37 [.slice a 1 c, v, .int .i64 0] (fun e h' => e = .ret (.bool true) ∧ h' = h) h := by
  (refine ACalls.bodyB (fn := Tryz.f37) (ng := 4) (N := 29) (res := [.tmp 6]) (by kernel_rfl) rfl rfl rfl (by kernel_rfl) (fun En hs => ?_); simp only [argsL, Nat.reduceAdd])
  clear hs
  ((repeat refine CWp.seq ?_); refine CWp.region ?_)
  repeat (first | refine RL.w good ?_ | refine RL.k ?_)
  refine RL.nil ?_
  (try simp (disch := omega) only [qR])
  ((repeat refine CWp.seq ?_); refine CWp.region ?_)
  repeat (first | refine RL.w good ?_ | refine RL.k ?_)
  refine RL.nil ?_
  (try simp (disch := omega) only [qR])
  ((repeat refine CWp.seq ?_); refine CWp.block ?_)
  refine CWp.loopR (α := Nat) (fun s => (tl [(7, .int .i64 (s : Nat)), (0, .slice a 1 c), (1, v), (2, .int .i64 0)], Ab.ov h [] [] 0)) (fun s => 1 - s) (fun s => s = 0 ∨ s = 1) 0 (.inl rfl) ?_ rfl ?_
  · exact tl_less (by simp [lk])
  · intro i hi
    rcases hi with rfl | rfl
    · ((repeat refine CWp.seq ?_); refine CWp.region ?_)
      repeat (first | refine RL.w good ?_ | refine RL.k ?_)
      refine RL.nil ?_
      (try simp (disch := omega) only [qR])
      ((repeat refine CWp.seq ?_); refine CWp.cnd good ?_ ?_)
      · intro _
        (refine CWp.skip ?_; (try simp (disch := omega) only [qR]))
        (repeat refine CWp.seq ?_)
        refine CWp.block ?_
        ((repeat refine CWp.seq ?_); refine CWp.drawI good (fun g => memN g [36]) [(0, true), (1, true), (2, true), (3, true), (4, true), (5, true), (6, true), (7, true), (8, true), (9, true), (10, true), (11, true), (12, true), (13, true), (14, true)] (by kernel_rfl) (fun _ _ _ q => q) ?_)
        repeat (first | refine PL.w ?_ | refine PL.wk ?_ | refine PL.ew ?_ | refine PL.ewk ?_)
        refine PL.nil ?_
        (try simp (disch := omega) only [qR])
        ((repeat refine CWp.seq ?_); refine CWp.cnd good ?_ ?_)
        · intro hc; cases hc
        · (intro hc; (try simp only [decide_eq_true_eq, decide_eq_false_iff_not, Bool.not_eq_true, Bool.not_eq_false, Int.not_lt, Int.not_le, bne_iff_ne, beq_iff_eq, ne_eq, Bool.not_eq_eq_eq_not, Bool.not_true, Bool.not_false] at hc))
          (refine CWp.skip ?_; (try simp (disch := omega) only [qR]))
          ((repeat refine CWp.seq ?_); refine CWp.region ?_)
          repeat (first | refine RL.w good ?_ | refine RL.k ?_)
          refine RL.nil ?_
          (try simp (disch := omega) only [qR])
          refine ⟨1, .inr rfl, by simp, tl_less (by simp [lk]), by trivial⟩
      · intro hc; cases hc
    · ((repeat refine CWp.seq ?_); refine CWp.region ?_)
      repeat (first | refine RL.w good ?_ | refine RL.k ?_)
      refine RL.nil ?_
      (try simp (disch := omega) only [qR])
      ((repeat refine CWp.seq ?_); refine CWp.cnd good ?_ ?_)
      · intro hc; cases hc
      · intro _
        (refine CWp.exit ?_; (try simp (disch := omega) only [qR]))
        ((repeat refine CWp.seq ?_); refine CWp.region ?_)
        repeat (first | refine RL.w good ?_ | refine RL.k ?_)
        refine RL.nil ?_
        (try simp (disch := omega) only [qR])
        (refine CWp.ret ?_; (try simp (disch := omega) only [qR]); refine rtB ?_; (try simp only [oneV]))
        exact EndB.plain En rfl ⟨rfl, rfl⟩
end Go.Ab
