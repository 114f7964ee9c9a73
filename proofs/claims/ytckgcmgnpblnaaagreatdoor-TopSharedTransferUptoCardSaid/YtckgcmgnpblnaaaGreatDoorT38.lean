/- A part of the proof of a law over a given program: Ins2, W4, W63, W33. -/
import Derived.Lib.Overlaps
import Derived.Laws.Externs
import Derived.Test.YtckgcmgnpblnaaaGreatDoorT14
import Derived.Test.YtckgcmgnpblnaaaGreatDoorT17
import Derived.Test.YtckgcmgnpblnaaaGreatDoorT18
import Derived.Test.YtckgcmgnpblnaaaGreatDoorT19
import Derived.Test.YtckgcmgnpblnaaaGreatDoorT20
import Derived.Test.YtckgcmgnpblnaaaGreatDoorT21
import Derived.Test.YtckgcmgnpblnaaaGreatDoorT22
import Derived.Test.YtckgcmgnpblnaaaGreatDoorT27
import Derived.Test.YtckgcmgnpblnaaaGreatDoorT28
import Derived.Test.YtckgcmgnpblnaaaGreatDoorT37
set_option linter.unusedVariables false
set_option linter.unusedSimpArgs false
namespace Go.Ab
open Go.Proofs
set_option maxRecDepth 10000
theorem run213 (w : World) (a b : Addr) (la ca lb cb : Nat) (hne : a.block ≠ b.block) (tA tB : TypeId) (kA kB : Nat) (hsa : w.shape? a.block = some (tA, kA)) (hsb : w.shape? b.block = some (tB, kB)) (hkB : kB ≠ 0)
    (hfa : w.frozen? a = false) (hfe : w.frozen? { block := a.block, off := kA } = false) : (callFunc 213 #[.slice (some a) la ca, .slice (some b) lb cb]).run Tryz.prog w = .ok (.value (.bool false)) w := by
  rw [run_callFunc_extern (fn := Tryz.f213) (by kernel_rfl) (by kernel_rfl) (by kernel_rfl) (by kernel_rfl) (e := Extern.SlicesOverlaps.overlaps #[115, 115] #[4]) (by kernel_rfl)]
  obtain ⟨j, hj⟩ : ∃ j, Tryz.prog.info? 114 = some j := ⟨_, rfl⟩
  rw [Lib.run_overlaps_apart (P := Tryz.prog) w 115 4 114 (by kernel_rfl) 2 (fun w => by kernel_rfl) a b la ca lb cb hne tA tB kA kB hsa hsb hkB hfa hfe]
  rfl
theorem AOne.overlaps {o : Oper} {T : Nat → Value} {h : Hp} {c : Call} {f x y : Operand} {ga gb ob m ca nb cb ea eb : Nat} {la lb : List Value} (hop : o.op = .call c) (hc : c.callee = .value f) (hf : evo T f = .func (.func 213) #[] #[]) (ha : c.args = #[x, y])
    (hx : evo T x = .slice (some ⟨ga, 0, none⟩) m ca) (hy : evo T y = .slice (some ⟨gb, ob, none⟩) nb cb) (hm : 0 < m) (hnb : 0 < nb) (hga : h.get ga = some (.cells la false ea)) (hgb : h.get gb = some (.cells lb false eb)) (hla : 0 < la.length) (hlb : 0 < lb.length) (hne : ga ≠ gb) {R RP : Value → Hp → Prop} (q : R (.bool false) h) : AOne Tryz.prog o T h R RP := fun ρ w ev H hv => by
  simp only [hop, Op.operands, Call.operands, hc, ha, Array.toList_append, List.mem_append] at hv
  have hfv := hv f (.inl (by simp))
  have hxv := hv x (.inr (by simp))
  have hyv := hv y (.inr (by simp))
  rw [hf] at hfv
  rw [hx] at hxv
  rw [hy] at hyv
  obtain ⟨x', y', h1, h2, h3⟩ := hfv
  obtain rfl : x' = #[] := by
    have := VRA.iff.1 h2
    cases x' with | mk l => cases l with | nil => rfl | cons => obtain ⟨_, _, e, _⟩ | e := this <;> cases e
  obtain rfl : y' = #[] := by
    have := VRA.iff.1 h3
    cases y' with | mk l => cases l with | nil => rfl | cons => obtain ⟨_, _, e, _⟩ | e := this <;> cases e
  obtain ⟨l1, a1, a2, a3⟩ := hxv
  obtain ⟨l2, b1, b2, b3⟩ := hyv
  obtain ⟨l1', cc1, fr1, p1, p2, p3, p4, p5, p6⟩ := H.cells hga
  obtain ⟨l2', cc2, fr2, q1, q2, q3, q4, q5, q6⟩ := H.cells hgb
  have a1 : ρ ga = some l1 := a1
  have b1 : ρ gb = some l2 := b1
  rw [a1] at p1; cases p1
  rw [b1] at q1; cases q1
  have hb := H.inj ga gb _ _ l1 l2 hga hgb hne rfl rfl a1 b1
  rcases a3 with ⟨k1, e1, _⟩ | ⟨h0, _⟩
  · rcases b3 with ⟨k2, e2, _⟩ | ⟨h0, _⟩
    · have hrun : (execOp ev o).run Tryz.prog w = .ok (.value (.bool false)) w := by
        have := run213 w ⟨l1.blk, l1.off + 0, none⟩ ⟨l2.blk, l2.off + ob, none⟩ m k1 nb k2 hb ea eb cc1.size cc2.size (shape_cells p2) (shape_cells q2) (by omega) (sub_frozen p2 _ ((p5 rfl).2 _ (by omega))) (sub_frozen p2 _ ((p5 rfl).2 _ (Nat.le_refl _)))
        simp [execOp, hop, resolve, hc, h1, Deferred.ofValue, invoke, ha, e1, e2] at this ⊢
        exact this
      unfold Raw
      rw [hrun]
      exact ⟨ρ, .bool false, h, H, Fr.refl _ _ _ _, rfl, q⟩
    · omega
  · omega
attribute [local push_cast] ldN_lowU takeN_one Option.toList_some ov_low
theorem sl115 {nx o n c l hh : Nat} {lo hi : Option Value} (h1 : bound 0 lo = some l) (h2 : bound n hi = some hh) (hc : c < 18446744073709551616) (h3 : l ≤ hh) (h4 : hh ≤ c) :
    sliceA (tiOf Tryz.prog) 115 (.slice (some ⟨nx, o, none⟩) n c) lo hi none = some (.slice (some (bif Nat.beq c l then ⟨nx, o, none⟩ else ⟨nx, o + l * 2, none⟩)) (hh - l) (c - l)) := by
  unfold sliceA
  rw [ty115]
  simp only [h1, h2]
  rw [show tiOf Tryz.prog 114 = _ from ty114]
  simp only [unk_small hc, cond_false, ble_true h3, ble_true h4, Bool.and_true, cond_true]
  rfl
theorem sl115u {nx o n l hh : Nat} {lo hi : Option Value} (h1 : bound 0 lo = some l) (h2 : bound n hi = some hh) (h3 : l ≤ hh) (h4 : hh ≤ n) :
    sliceA (tiOf Tryz.prog) 115 (.slice (some ⟨nx, o, none⟩) n (U + 2)) lo hi none = some (.slice (some ⟨nx, o + l * 2, none⟩) (hh - l) (U + 2)) := by
  unfold sliceA
  rw [ty115]
  simp only [h1, h2]
  rw [show tiOf Tryz.prog 114 = _ from ty114]
  simp only [unk_U, cond_true, ble_true h3, ble_true h4, Bool.and_true, beq_true rfl]
  rfl
theorem copy115 {get : Nat → Option AObj} {g1 o1 n1 c1 g2 o2 n2 c2 m el : Nat} {cs c c' : List Value} (hm : (bif Nat.ble n2 n1 then n2 else n1) = m) (h0 : Nat.beq m 0 = false) (h1 : ldN get ⟨g2, o2, none⟩ (m * 2) = some cs) (h2 : get g1 = some (.cells c false el)) (h3 : ones cs = true) (h4 : repl c o1 cs = some c') :
    copyA (tiOf Tryz.prog) get 115 (.slice (some ⟨g1, o1, none⟩) n1 c1) (.slice (some ⟨g2, o2, none⟩) n2 c2) = some (goInt m, .put g1 (.cells c' false el)) := by
  unfold copyA
  rw [ty115]
  simp only
  rw [show tiOf Tryz.prog 114 = _ from ty114]
  simp only [hm, h0, cond_false, h1, h2, h3, cond_true, h4]
set_option maxHeartbeats 4000000 in
theorem ins1full {h : Hp} {nx gv : Nat} {a b x1 x2 : Int} (hn : nx < h.next) (hv : gv < h.next) (hg : h.get nx = some (.cells [.int .i64 x1, .int .i64 x2] false 114)) (hgv : h.get gv = some (.cells [.int .i64 a, .int .i64 b] false 114)) :
    ACalls Tryz.prog 202 [.slice (some ⟨nx, 0, none⟩) 1 1, .int .i64 0, .slice (some ⟨gv, 0, none⟩) 1 1] (fun en h' => en = .ret (.slice (some ⟨loc h 0, 0, none⟩) 2 (U + 2)) ∧ h' = Ab.ov h [] [(0, .cells [.int .i64 a, .int .i64 b, .int .i64 x1, .int .i64 x2] false 114)] 1) h := by
  have e1 : sliceA (tiOf Tryz.prog) 115 (.slice (some ⟨nx, 0, none⟩) 1 1) (some (.int .i64 0)) none none = some (.slice (some ⟨nx, 0, none⟩) 1 1) := sl115 (l := 0) (hh := 1) rfl rfl (by decide) (by decide) (by decide)
  have e2 : sliceA (tiOf Tryz.prog) 115 (.slice (some ⟨nx, 0, none⟩) 1 1) none (some (.int .i64 0)) none = some (.slice (some ⟨nx, 0, none⟩) 0 1) := sl115 (l := 0) (hh := 0) rfl rfl (by decide) (by decide) (by decide)
  have e3 : sliceA (tiOf Tryz.prog) 115 (.slice (some ⟨loc h 0, 0, none⟩) 2 (U + 2)) (some (.int .i64 0)) none none = some (.slice (some ⟨loc h 0, 0, none⟩) 2 (U + 2)) := sl115u (l := 0) (hh := 2) rfl rfl (by decide) (by decide)
  have e4 : ∀ x : Int, x = 1 → sliceA (tiOf Tryz.prog) 115 (.slice (some ⟨loc h 0, 0, none⟩) 2 (U + 2)) (some (.int .i64 x)) none none = some (.slice (some ⟨loc h 0, 2, none⟩) 1 (U + 2)) := fun x hx => by subst hx; exact sl115u (l := 1) (hh := 2) rfl rfl (by decide) (by decide)
  have l1 : ∀ L k, ldN (Ab.ov h [] L k).get ⟨gv, 0, none⟩ 2 = some [.int .i64 a, .int .i64 b] := fun L k => by unfold ldN; simp only [ov_low0 hv, hgv]; rfl
  have l2 : ∀ L k, ldN (Ab.ov h [] L k).get ⟨nx, 0, none⟩ 2 = some [.int .i64 x1, .int .i64 x2] := fun L k => by unfold ldN; simp only [ov_low0 hn, hg]; rfl
  have k1 : copyA (tiOf Tryz.prog) (Ab.ov h [] [(0, .cells [.int .i64 0, .int .i64 0, .int .i64 0, .int .i64 0] false 114)] 1).get 115 (.slice (some ⟨loc h 0, 0, none⟩) 2 (U + 2)) (.slice (some ⟨gv, 0, none⟩) 1 1) = some (goInt 1, .put (loc h 0) (.cells [.int .i64 a, .int .i64 b, .int .i64 0, .int .i64 0] false 114)) :=
    copy115 (m := 1) rfl rfl (l1 _ _) (by rw [ov_loc]; rfl) rfl rfl
  have k2 : copyA (tiOf Tryz.prog) (Ab.ov h [] [(0, .cells [.int .i64 a, .int .i64 b, .int .i64 0, .int .i64 0] false 114)] 1).get 115 (.slice (some ⟨loc h 0, 2, none⟩) 1 (U + 2)) (.slice (some ⟨nx, 0, none⟩) 1 1) = some (goInt 1, .put (loc h 0) (.cells [.int .i64 a, .int .i64 b, .int .i64 x1, .int .i64 x2] false 114)) :=
    copy115 (m := 1) rfl rfl (l2 _ _) (by rw [ov_loc]; rfl) rfl rfl
  (refine ACalls.bodyB (fn := Tryz.f202) (ng := 4) (N := 95) (res := [.tmp 6]) (by kernel_rfl) rfl rfl rfl (by kernel_rfl) (fun En hs => ?_); simp only [argsL, Nat.reduceAdd])
  clear hs
  ((repeat refine CWp.seq ?_); refine CWp.region ?_)
  repeat (first | refine RL.w good ?_ | refine RL.k ?_)
  refine RL.nil ?_
  (try simp (disch := omega) only [qA])
  ((repeat refine CWp.seq ?_); refine CWp.region ?_)
  repeat (first | refine RL.w good ?_ | refine RL.k ?_)
  refine RL.nil ?_
  (try simp (disch := omega) only [qA])
  ((repeat refine CWp.seq ?_); refine CWp.region ?_)
  repeat (first | refine RL.w good ?_ | refine RL.k ?_)
  refine RL.nil ?_
  (try simp (disch := omega) only [qA])
  ((repeat refine CWp.seq ?_); refine CWp.region ?_)
  repeat (first | refine RL.w good ?_ | refine RL.k ?_)
  refine RL.nil ?_
  (try simp (disch := omega) only [qA])
  ((repeat refine CWp.seq ?_); refine CWp.cnd good ?_ ?_)
  · intro hc; cases hc
  · intro _
    (refine CWp.skip ?_; (try simp (disch := omega) only [qA]))
    ((repeat refine CWp.seq ?_); refine CWp.region ?_)
    repeat (first | refine RL.w good ?_ | refine RL.k ?_)
    refine RL.nil ?_
    (try simp (disch := omega) only [qA])
    ((repeat refine CWp.seq ?_); refine CWp.region ?_)
    repeat (first | refine RL.w good ?_ | refine RL.k ?_)
    refine RL.nil ?_
    (try simp (disch := omega) only [qA])
    ((repeat refine CWp.seq ?_); refine CWp.cnd good ?_ ?_)
    · intro hc; cases hc
    · intro _
      (refine CWp.skip ?_; (try simp (disch := omega) only [qA]))
      ((repeat refine CWp.seq ?_); refine CWp.region ?_)
      repeat (first | refine RL.w good ?_ | refine RL.k ?_)
      refine RL.nil ?_
      (try simp (disch := omega) only [qA])
      ((repeat refine CWp.seq ?_); refine CWp.cnd good ?_ ?_)
      · intro _
        ((repeat refine CWp.seq ?_); refine CWp.region ?_)
        repeat (first | refine RL.w good ?_ | refine RL.k ?_)
        refine RL.nil ?_
        (try simp (disch := omega) only [qA])
        ((repeat refine CWp.seq ?_); refine CWp.region ?_)
        repeat (first | refine RL.w good ?_ | refine RL.k ?_)
        refine RL.nil ?_
        (try simp (disch := omega) only [qA])
        refine CWp.weakenT (T' := tl [(9, .slice (some ⟨loc h 0, 0, none⟩) 2 (U + 2)), (1, .int .i64 0), (7, .int .i64 1), (0, .slice (some ⟨nx, 0, none⟩) 1 1)]) (tl_less (by intro p hp; simp only [List.mem_cons, List.not_mem_nil, or_false] at hp; rcases hp with rfl | rfl | rfl | rfl <;> rfl)) ?_
        ((repeat refine CWp.seq ?_); refine CWp.drawI good (fun g => memN g []) [(0, true), (1, true), (2, true), (3, true), (4, true), (5, true), (6, true), (7, true), (8, false)] (by kernel_rfl) (fun _ _ _ q => q) ?_)
        repeat (first | refine PL.w ?_ | refine PL.wk ?_ | refine PL.ew ?_ | refine PL.ewk ?_)
        refine PL.nil ?_
        (try simp (disch := omega) only [qA])
        ((repeat refine CWp.seq ?_); refine CWp.region ?_)
        repeat (first | refine RL.w good ?_ | refine RL.k ?_)
        refine RL.nil ?_
        (try simp (disch := omega) only [qA])
        (refine CWp.ret ?_; (try simp (disch := omega) only [qA]); refine rtQ ?_; (try simp only [oneV]))
        exact ⟨by trivial, by trivial⟩
      · intro hc; cases hc
set_option maxHeartbeats 4000000 in
theorem ins1room {h : Hp} {nx gv k : Nat} {a b x1 x2 : Int} {t : List Value} (hk : 2 ≤ k) (hkU : k < 18446744073709551616) (hn : nx < h.next) (hv : gv < h.next) (hne : ¬ nx = gv) (hg : h.get nx = some (.cells (.int .i64 x1 :: .int .i64 x2 :: junk :: junk :: t) false 114)) (hgv : h.get gv = some (.cells [.int .i64 a, .int .i64 b] false 114)) :
    ACalls Tryz.prog 202 [.slice (some ⟨nx, 0, none⟩) 1 k, .int .i64 0, .slice (some ⟨gv, 0, none⟩) 1 1] (fun en h' => en = .ret (.slice (some ⟨nx, 0, none⟩) 2 k) ∧ h' = Ab.ov h [(nx, .cells (.int .i64 a :: .int .i64 b :: .int .i64 x1 :: .int .i64 x2 :: t) false 114)] [] 0) h := by
  have hne' : ¬ gv = nx := fun e => hne e.symm
  have b0 : Nat.beq k 0 = false := beq_false (by omega)
  have b1 : Nat.beq k 1 = false := beq_false (by omega)
  have e1 : sliceA (tiOf Tryz.prog) 115 (.slice (some ⟨nx, 0, none⟩) 1 k) (some (.int .i64 0)) none none = some (.slice (some ⟨nx, 0, none⟩) 1 k) := by
    have := sl115 (nx := nx) (o := 0) (n := 1) (c := k) (lo := some (.int .i64 0)) (hi := none) (l := 0) (hh := 1) rfl rfl hkU (by decide) (by omega)
    rw [b0] at this
    exact this
  have e2 : ∀ x : Int, x = 2 → sliceA (tiOf Tryz.prog) 115 (.slice (some ⟨nx, 0, none⟩) 1 k) none (some (.int .i64 x)) none = some (.slice (some ⟨nx, 0, none⟩) 2 k) := fun x hx => by
    subst hx
    have := sl115 (nx := nx) (o := 0) (n := 1) (c := k) (lo := none) (hi := some (.int .i64 2)) (l := 0) (hh := 2) rfl rfl hkU (by decide) hk
    rw [b0] at this
    exact this
  have e3 : ∀ x : Int, x = 1 → sliceA (tiOf Tryz.prog) 115 (.slice (some ⟨nx, 0, none⟩) 2 k) (some (.int .i64 x)) none none = some (.slice (some ⟨nx, 2, none⟩) 1 (k - 1)) := fun x hx => by
    subst hx
    have := sl115 (nx := nx) (o := 0) (n := 2) (c := k) (lo := some (.int .i64 1)) (hi := none) (l := 1) (hh := 2) rfl rfl hkU (by decide) hk
    rw [b1] at this
    exact this
  have e4 : sliceA (tiOf Tryz.prog) 115 (.slice (some ⟨nx, 0, none⟩) 2 k) (some (.int .i64 0)) none none = some (.slice (some ⟨nx, 0, none⟩) 2 k) := by
    have := sl115 (nx := nx) (o := 0) (n := 2) (c := k) (lo := some (.int .i64 0)) (hi := none) (l := 0) (hh := 2) rfl rfl hkU (by decide) hk
    rw [b0] at this
    exact this
  have l2 : ldN (Ab.ov h [] [] 0).get ⟨nx, 0, none⟩ 2 = some [.int .i64 x1, .int .i64 x2] := by unfold ldN; simp only [ov_low0 hn, hg]; rfl
  have k1 : copyA (tiOf Tryz.prog) (Ab.ov h [] [] 0).get 115 (.slice (some ⟨nx, 2, none⟩) 1 (k - 1)) (.slice (some ⟨nx, 0, none⟩) 2 k) = some (goInt 1, .put nx (.cells (.int .i64 x1 :: .int .i64 x2 :: .int .i64 x1 :: .int .i64 x2 :: t) false 114)) :=
    copy115 (m := 1) rfl rfl l2 (by rw [ov_low0 hn]; exact hg) rfl (by simp [repl])
  have l3 : ldN (Ab.ov h [(nx, .cells (.int .i64 x1 :: .int .i64 x2 :: .int .i64 x1 :: .int .i64 x2 :: t) false 114)] [] 0).get ⟨gv, 0, none⟩ 2 = some [.int .i64 a, .int .i64 b] := by unfold ldN; simp only [ov_low hv, lk, if_neg hne, hgv]; rfl
  have k2 : copyA (tiOf Tryz.prog) (Ab.ov h [(nx, .cells (.int .i64 x1 :: .int .i64 x2 :: .int .i64 x1 :: .int .i64 x2 :: t) false 114)] [] 0).get 115 (.slice (some ⟨nx, 0, none⟩) 2 k) (.slice (some ⟨gv, 0, none⟩) 1 1) = some (goInt 1, .put nx (.cells (.int .i64 a :: .int .i64 b :: .int .i64 x1 :: .int .i64 x2 :: t) false 114)) :=
    copy115 (m := 1) (c := (.int .i64 x1 :: .int .i64 x2 :: .int .i64 x1 :: .int .i64 x2 :: t)) rfl rfl l3 (by rw [ov_low hn]; simp [lk]) rfl (by simp [repl])
  (refine ACalls.bodyB (fn := Tryz.f202) (ng := 4) (N := 95) (res := [.tmp 6]) (by kernel_rfl) rfl rfl rfl (by kernel_rfl) (fun En hs => ?_); simp only [argsL, Nat.reduceAdd])
  clear hs
  ((repeat refine CWp.seq ?_); refine CWp.region ?_)
  repeat (first | refine RL.w good ?_ | refine RL.k ?_)
  refine RL.nil ?_
  (try simp (disch := omega) only [qA])
  ((repeat refine CWp.seq ?_); refine CWp.region ?_)
  repeat (first | refine RL.w good ?_ | refine RL.k ?_)
  refine RL.nil ?_
  (try simp (disch := omega) only [qA])
  ((repeat refine CWp.seq ?_); refine CWp.region ?_)
  repeat (first | refine RL.w good ?_ | refine RL.k ?_)
  refine RL.nil ?_
  (try simp (disch := omega) only [qA])
  ((repeat refine CWp.seq ?_); refine CWp.region ?_)
  repeat (first | refine RL.w good ?_ | refine RL.k ?_)
  refine RL.nil ?_
  (try simp (disch := omega) only [qA])
  ((repeat refine CWp.seq ?_); refine CWp.cnd good ?_ ?_)
  · intro hc; cases hc
  · intro _
    (refine CWp.skip ?_; (try simp (disch := omega) only [qA]))
    ((repeat refine CWp.seq ?_); refine CWp.region ?_)
    repeat (first | refine RL.w good ?_ | refine RL.k ?_)
    refine RL.nil ?_
    (try simp (disch := omega) only [qA])
    ((repeat refine CWp.seq ?_); refine CWp.region ?_)
    repeat (first | refine RL.w good ?_ | refine RL.k ?_)
    refine RL.nil ?_
    (try simp (disch := omega) only [qA])
    ((repeat refine CWp.seq ?_); refine CWp.cnd good ?_ ?_)
    · intro hc; cases hc
    · intro _
      (refine CWp.skip ?_; (try simp (disch := omega) only [qA]))
      ((repeat refine CWp.seq ?_); refine CWp.region ?_)
      repeat (first | refine RL.w good ?_ | refine RL.k ?_)
      refine RL.nil ?_
      (try simp (disch := omega) only [qA])
      ((repeat refine CWp.seq ?_); refine CWp.cnd good ?_ ?_)
      · intro hc
        exfalso
        simp only [decide_eq_true_eq] at hc
        omega
      · intro _
        (refine CWp.skip ?_; (try simp (disch := omega) only [qA]))
        ((repeat refine CWp.seq ?_); refine CWp.region ?_)
        repeat (first | refine RL.w good ?_ | refine RL.k ?_)
        refine RL.nil ?_
        (try simp (disch := omega) only [qA])
        refine CWp.weakenT (T' := tl [(0, .slice (some ⟨nx, 0, none⟩) 2 k), (1, .int .i64 0), (2, .slice (some ⟨gv, 0, none⟩) 1 1), (7, .int .i64 1)]) (tl_less (by intro p hp; simp only [List.mem_cons, List.not_mem_nil, or_false] at hp; rcases hp with rfl | rfl | rfl | rfl <;> rfl)) ?_
        ((repeat refine CWp.seq ?_); refine CWp.region ?_)
        repeat (first | refine RL.w good ?_ | refine RL.k ?_)
        refine RL.raw good (by first | exact rfl | (simp only [push_cast, reduceIte, Nat.reduceEqDiff, *]; done) | (simp only [push_cast, reduceIte, Nat.reduceEqDiff, *]; exact rfl)) (AOne.overlaps rfl rfl (by simp (disch := omega) only [push_cast, reduceIte, Nat.reduceEqDiff, beq_self_eq_true, bne_self_eq_false, Int.reduceBEq, Int.reduceBNe, Int.reduceLT, Int.reduceLE, Nat.reduceAdd, Nat.reduceMul, Nat.reduceSub, Int.reduceToNat, Nat.reducePow, Int.reducePow, *] <;> exact rfl) rfl (by simp (disch := omega) only [push_cast, reduceIte, Nat.reduceEqDiff, beq_self_eq_true, bne_self_eq_false, Int.reduceBEq, Int.reduceBNe, Int.reduceLT, Int.reduceLE, Nat.reduceAdd, Nat.reduceMul, Nat.reduceSub, Int.reduceToNat, Nat.reducePow, Int.reducePow, *] <;> exact rfl) (by simp (disch := omega) only [push_cast, reduceIte, Nat.reduceEqDiff, beq_self_eq_true, bne_self_eq_false, Int.reduceBEq, Int.reduceBNe, Int.reduceLT, Int.reduceLE, Nat.reduceAdd, Nat.reduceMul, Nat.reduceSub, Int.reduceToNat, Nat.reducePow, Int.reducePow, *] <;> exact rfl) (by decide) (by decide) (by rw [ov_low0 hv]; exact hgv) (by rw [ov_low0 hn]; exact hg) (by simp) (by simp) hne' ?_)
        (try dsimp only)
        simp only [putT_tl]
        repeat (first | refine RL.w good ?_ | refine RL.k ?_)
        refine RL.nil ?_
        (try simp (disch := omega) only [qA])
        ((repeat refine CWp.seq ?_); refine CWp.cnd good ?_ ?_)
        · intro _
          ((repeat refine CWp.seq ?_); refine CWp.drawI good (fun g => memN g []) [(0, true), (1, true), (2, true), (3, true), (4, true), (5, true), (6, true), (7, true), (8, false)] (by kernel_rfl) (fun _ _ _ q => q) ?_)
          repeat (first | refine PL.w ?_ | refine PL.wk ?_ | refine PL.ew ?_ | refine PL.ewk ?_)
          refine PL.nil ?_
          (try simp (disch := omega) only [qA])
          ((repeat refine CWp.seq ?_); refine CWp.region ?_)
          repeat (first | refine RL.w good ?_ | refine RL.k ?_)
          refine RL.nil ?_
          (try simp (disch := omega) only [qA])
          ((repeat refine CWp.seq ?_); refine CWp.region ?_)
          repeat (first | refine RL.w good ?_ | refine RL.k ?_)
          refine RL.nil ?_
          (try simp (disch := omega) only [qA])
          (refine CWp.ret ?_; (try simp (disch := omega) only [qA]); refine rtQ ?_; (try simp only [oneV]))
          exact ⟨by trivial, by trivial⟩
        · intro hc; cases hc
set_option maxHeartbeats 4000000 in
theorem ins2full {h : Hp} {nx gv : Nat} {a b x1 x2 x3 x4 : Int} (hn : nx < h.next) (hv : gv < h.next) (hg : h.get nx = some (.cells [.int .i64 x1, .int .i64 x2, .int .i64 x3, .int .i64 x4] false 114)) (hgv : h.get gv = some (.cells [.int .i64 a, .int .i64 b] false 114)) :
    ACalls Tryz.prog 202 [.slice (some ⟨nx, 0, none⟩) 2 2, .int .i64 0, .slice (some ⟨gv, 0, none⟩) 1 1] (fun en h' => en = .ret (.slice (some ⟨loc h 0, 0, none⟩) 3 (U + 2)) ∧ h' = Ab.ov h [] [(0, .cells [.int .i64 a, .int .i64 b, .int .i64 x1, .int .i64 x2, .int .i64 x3, .int .i64 x4] false 114)] 1) h := by
  have e1 : sliceA (tiOf Tryz.prog) 115 (.slice (some ⟨nx, 0, none⟩) 2 2) (some (.int .i64 0)) none none = some (.slice (some ⟨nx, 0, none⟩) 2 2) := sl115 (l := 0) (hh := 2) rfl rfl (by decide) (by decide) (by decide)
  have e2 : sliceA (tiOf Tryz.prog) 115 (.slice (some ⟨nx, 0, none⟩) 2 2) none (some (.int .i64 0)) none = some (.slice (some ⟨nx, 0, none⟩) 0 2) := sl115 (l := 0) (hh := 0) rfl rfl (by decide) (by decide) (by decide)
  have e3 : sliceA (tiOf Tryz.prog) 115 (.slice (some ⟨loc h 0, 0, none⟩) 3 (U + 2)) (some (.int .i64 0)) none none = some (.slice (some ⟨loc h 0, 0, none⟩) 3 (U + 2)) := sl115u (l := 0) (hh := 3) rfl rfl (by decide) (by decide)
  have e4 : ∀ x : Int, x = 1 → sliceA (tiOf Tryz.prog) 115 (.slice (some ⟨loc h 0, 0, none⟩) 3 (U + 2)) (some (.int .i64 x)) none none = some (.slice (some ⟨loc h 0, 2, none⟩) 2 (U + 2)) := fun x hx => by subst hx; exact sl115u (l := 1) (hh := 3) rfl rfl (by decide) (by decide)
  have l1 : ∀ L k, ldN (Ab.ov h [] L k).get ⟨gv, 0, none⟩ 2 = some [.int .i64 a, .int .i64 b] := fun L k => by unfold ldN; simp only [ov_low0 hv, hgv]; rfl
  have l2 : ∀ L k, ldN (Ab.ov h [] L k).get ⟨nx, 0, none⟩ 4 = some [.int .i64 x1, .int .i64 x2, .int .i64 x3, .int .i64 x4] := fun L k => by unfold ldN; simp only [ov_low0 hn, hg]; rfl
  have k1 : copyA (tiOf Tryz.prog) (Ab.ov h [] [(0, .cells [.int .i64 0, .int .i64 0, .int .i64 0, .int .i64 0, .int .i64 0, .int .i64 0] false 114)] 1).get 115 (.slice (some ⟨loc h 0, 0, none⟩) 3 (U + 2)) (.slice (some ⟨gv, 0, none⟩) 1 1) = some (goInt 1, .put (loc h 0) (.cells [.int .i64 a, .int .i64 b, .int .i64 0, .int .i64 0, .int .i64 0, .int .i64 0] false 114)) :=
    copy115 (m := 1) rfl rfl (l1 _ _) (by rw [ov_loc]; rfl) rfl rfl
  have k2 : copyA (tiOf Tryz.prog) (Ab.ov h [] [(0, .cells [.int .i64 a, .int .i64 b, .int .i64 0, .int .i64 0, .int .i64 0, .int .i64 0] false 114)] 1).get 115 (.slice (some ⟨loc h 0, 2, none⟩) 2 (U + 2)) (.slice (some ⟨nx, 0, none⟩) 2 2) = some (goInt 2, .put (loc h 0) (.cells [.int .i64 a, .int .i64 b, .int .i64 x1, .int .i64 x2, .int .i64 x3, .int .i64 x4] false 114)) :=
    copy115 (m := 2) rfl rfl (l2 _ _) (by rw [ov_loc]; rfl) rfl rfl
  (refine ACalls.bodyB (fn := Tryz.f202) (ng := 4) (N := 95) (res := [.tmp 6]) (by kernel_rfl) rfl rfl rfl (by kernel_rfl) (fun En hs => ?_); simp only [argsL, Nat.reduceAdd])
  clear hs
  ((repeat refine CWp.seq ?_); refine CWp.region ?_)
  repeat (first | refine RL.w good ?_ | refine RL.k ?_)
  refine RL.nil ?_
  (try simp (disch := omega) only [qA])
  ((repeat refine CWp.seq ?_); refine CWp.region ?_)
  repeat (first | refine RL.w good ?_ | refine RL.k ?_)
  refine RL.nil ?_
  (try simp (disch := omega) only [qA])
  ((repeat refine CWp.seq ?_); refine CWp.region ?_)
  repeat (first | refine RL.w good ?_ | refine RL.k ?_)
  refine RL.nil ?_
  (try simp (disch := omega) only [qA])
  ((repeat refine CWp.seq ?_); refine CWp.region ?_)
  repeat (first | refine RL.w good ?_ | refine RL.k ?_)
  refine RL.nil ?_
  (try simp (disch := omega) only [qA])
  ((repeat refine CWp.seq ?_); refine CWp.cnd good ?_ ?_)
  · intro hc; cases hc
  · intro _
    (refine CWp.skip ?_; (try simp (disch := omega) only [qA]))
    ((repeat refine CWp.seq ?_); refine CWp.region ?_)
    repeat (first | refine RL.w good ?_ | refine RL.k ?_)
    refine RL.nil ?_
    (try simp (disch := omega) only [qA])
    ((repeat refine CWp.seq ?_); refine CWp.region ?_)
    repeat (first | refine RL.w good ?_ | refine RL.k ?_)
    refine RL.nil ?_
    (try simp (disch := omega) only [qA])
    ((repeat refine CWp.seq ?_); refine CWp.cnd good ?_ ?_)
    · intro hc; cases hc
    · intro _
      (refine CWp.skip ?_; (try simp (disch := omega) only [qA]))
      ((repeat refine CWp.seq ?_); refine CWp.region ?_)
      repeat (first | refine RL.w good ?_ | refine RL.k ?_)
      refine RL.nil ?_
      (try simp (disch := omega) only [qA])
      ((repeat refine CWp.seq ?_); refine CWp.cnd good ?_ ?_)
      · intro _
        ((repeat refine CWp.seq ?_); refine CWp.region ?_)
        repeat (first | refine RL.w good ?_ | refine RL.k ?_)
        refine RL.nil ?_
        (try simp (disch := omega) only [qA])
        ((repeat refine CWp.seq ?_); refine CWp.region ?_)
        repeat (first | refine RL.w good ?_ | refine RL.k ?_)
        refine RL.nil ?_
        (try simp (disch := omega) only [qA])
        refine CWp.weakenT (T' := tl [(9, .slice (some ⟨loc h 0, 0, none⟩) 3 (U + 2)), (1, .int .i64 0), (7, .int .i64 1), (0, .slice (some ⟨nx, 0, none⟩) 2 2)]) (tl_less (by intro p hp; simp only [List.mem_cons, List.not_mem_nil, or_false] at hp; rcases hp with rfl | rfl | rfl | rfl <;> rfl)) ?_
        ((repeat refine CWp.seq ?_); refine CWp.drawI good (fun g => memN g []) [(0, true), (1, true), (2, true), (3, true), (4, true), (5, true), (6, true), (7, true), (8, false)] (by kernel_rfl) (fun _ _ _ q => q) ?_)
        repeat (first | refine PL.w ?_ | refine PL.wk ?_ | refine PL.ew ?_ | refine PL.ewk ?_)
        refine PL.nil ?_
        (try simp (disch := omega) only [qA])
        ((repeat refine CWp.seq ?_); refine CWp.region ?_)
        repeat (first | refine RL.w good ?_ | refine RL.k ?_)
        refine RL.nil ?_
        (try simp (disch := omega) only [qA])
        (refine CWp.ret ?_; (try simp (disch := omega) only [qA]); refine rtQ ?_; (try simp only [oneV]))
        exact ⟨by trivial, by trivial⟩
      · intro hc; cases hc
set_option maxHeartbeats 4000000 in
theorem ins2room {h : Hp} {nx gv k : Nat} {a b x1 x2 x3 x4 : Int} {t : List Value} (hk : 3 ≤ k) (hkU : k < 18446744073709551616) (hn : nx < h.next) (hv : gv < h.next) (hne : ¬ nx = gv) (hg : h.get nx = some (.cells (.int .i64 x1 :: .int .i64 x2 :: .int .i64 x3 :: .int .i64 x4 :: junk :: junk :: t) false 114)) (hgv : h.get gv = some (.cells [.int .i64 a, .int .i64 b] false 114)) :
    ACalls Tryz.prog 202 [.slice (some ⟨nx, 0, none⟩) 2 k, .int .i64 0, .slice (some ⟨gv, 0, none⟩) 1 1] (fun en h' => en = .ret (.slice (some ⟨nx, 0, none⟩) 3 k) ∧ h' = Ab.ov h [(nx, .cells (.int .i64 a :: .int .i64 b :: .int .i64 x1 :: .int .i64 x2 :: .int .i64 x3 :: .int .i64 x4 :: t) false 114)] [] 0) h := by
  have hne' : ¬ gv = nx := fun e => hne e.symm
  have b0 : Nat.beq k 0 = false := beq_false (by omega)
  have b1 : Nat.beq k 1 = false := beq_false (by omega)
  have e1 : sliceA (tiOf Tryz.prog) 115 (.slice (some ⟨nx, 0, none⟩) 2 k) (some (.int .i64 0)) none none = some (.slice (some ⟨nx, 0, none⟩) 2 k) := by
    have := sl115 (nx := nx) (o := 0) (n := 2) (c := k) (lo := some (.int .i64 0)) (hi := none) (l := 0) (hh := 2) rfl rfl hkU (by decide) (by omega)
    rw [b0] at this
    exact this
  have e2 : ∀ x : Int, x = 3 → sliceA (tiOf Tryz.prog) 115 (.slice (some ⟨nx, 0, none⟩) 2 k) none (some (.int .i64 x)) none = some (.slice (some ⟨nx, 0, none⟩) 3 k) := fun x hx => by
    subst hx
    have := sl115 (nx := nx) (o := 0) (n := 2) (c := k) (lo := none) (hi := some (.int .i64 3)) (l := 0) (hh := 3) rfl rfl hkU (by decide) hk
    rw [b0] at this
    exact this
  have e3 : ∀ x : Int, x = 1 → sliceA (tiOf Tryz.prog) 115 (.slice (some ⟨nx, 0, none⟩) 3 k) (some (.int .i64 x)) none none = some (.slice (some ⟨nx, 2, none⟩) 2 (k - 1)) := fun x hx => by
    subst hx
    have := sl115 (nx := nx) (o := 0) (n := 3) (c := k) (lo := some (.int .i64 1)) (hi := none) (l := 1) (hh := 3) rfl rfl hkU (by decide) hk
    rw [b1] at this
    exact this
  have e4 : sliceA (tiOf Tryz.prog) 115 (.slice (some ⟨nx, 0, none⟩) 3 k) (some (.int .i64 0)) none none = some (.slice (some ⟨nx, 0, none⟩) 3 k) := by
    have := sl115 (nx := nx) (o := 0) (n := 3) (c := k) (lo := some (.int .i64 0)) (hi := none) (l := 0) (hh := 3) rfl rfl hkU (by decide) hk
    rw [b0] at this
    exact this
  have l2 : ldN (Ab.ov h [] [] 0).get ⟨nx, 0, none⟩ 4 = some [.int .i64 x1, .int .i64 x2, .int .i64 x3, .int .i64 x4] := by unfold ldN; simp only [ov_low0 hn, hg]; rfl
  have k1 : copyA (tiOf Tryz.prog) (Ab.ov h [] [] 0).get 115 (.slice (some ⟨nx, 2, none⟩) 2 (k - 1)) (.slice (some ⟨nx, 0, none⟩) 3 k) = some (goInt 2, .put nx (.cells (.int .i64 x1 :: .int .i64 x2 :: .int .i64 x1 :: .int .i64 x2 :: .int .i64 x3 :: .int .i64 x4 :: t) false 114)) :=
    copy115 (m := 2) rfl rfl l2 (by rw [ov_low0 hn]; exact hg) rfl (by simp [repl])
  have l3 : ldN (Ab.ov h [(nx, .cells (.int .i64 x1 :: .int .i64 x2 :: .int .i64 x1 :: .int .i64 x2 :: .int .i64 x3 :: .int .i64 x4 :: t) false 114)] [] 0).get ⟨gv, 0, none⟩ 2 = some [.int .i64 a, .int .i64 b] := by unfold ldN; simp only [ov_low hv, lk, if_neg hne, hgv]; rfl
  have k2 : copyA (tiOf Tryz.prog) (Ab.ov h [(nx, .cells (.int .i64 x1 :: .int .i64 x2 :: .int .i64 x1 :: .int .i64 x2 :: .int .i64 x3 :: .int .i64 x4 :: t) false 114)] [] 0).get 115 (.slice (some ⟨nx, 0, none⟩) 3 k) (.slice (some ⟨gv, 0, none⟩) 1 1) = some (goInt 1, .put nx (.cells (.int .i64 a :: .int .i64 b :: .int .i64 x1 :: .int .i64 x2 :: .int .i64 x3 :: .int .i64 x4 :: t) false 114)) :=
    copy115 (m := 1) (c := (.int .i64 x1 :: .int .i64 x2 :: .int .i64 x1 :: .int .i64 x2 :: .int .i64 x3 :: .int .i64 x4 :: t)) rfl rfl l3 (by rw [ov_low hn]; simp [lk]) rfl (by simp [repl])
  (refine ACalls.bodyB (fn := Tryz.f202) (ng := 4) (N := 95) (res := [.tmp 6]) (by kernel_rfl) rfl rfl rfl (by kernel_rfl) (fun En hs => ?_); simp only [argsL, Nat.reduceAdd])
  clear hs
  ((repeat refine CWp.seq ?_); refine CWp.region ?_)
  repeat (first | refine RL.w good ?_ | refine RL.k ?_)
  refine RL.nil ?_
  (try simp (disch := omega) only [qA])
  ((repeat refine CWp.seq ?_); refine CWp.region ?_)
  repeat (first | refine RL.w good ?_ | refine RL.k ?_)
  refine RL.nil ?_
  (try simp (disch := omega) only [qA])
  ((repeat refine CWp.seq ?_); refine CWp.region ?_)
  repeat (first | refine RL.w good ?_ | refine RL.k ?_)
  refine RL.nil ?_
  (try simp (disch := omega) only [qA])
  ((repeat refine CWp.seq ?_); refine CWp.region ?_)
  repeat (first | refine RL.w good ?_ | refine RL.k ?_)
  refine RL.nil ?_
  (try simp (disch := omega) only [qA])
  ((repeat refine CWp.seq ?_); refine CWp.cnd good ?_ ?_)
  · intro hc; cases hc
  · intro _
    (refine CWp.skip ?_; (try simp (disch := omega) only [qA]))
    ((repeat refine CWp.seq ?_); refine CWp.region ?_)
    repeat (first | refine RL.w good ?_ | refine RL.k ?_)
    refine RL.nil ?_
    (try simp (disch := omega) only [qA])
    ((repeat refine CWp.seq ?_); refine CWp.region ?_)
    repeat (first | refine RL.w good ?_ | refine RL.k ?_)
    refine RL.nil ?_
    (try simp (disch := omega) only [qA])
    ((repeat refine CWp.seq ?_); refine CWp.cnd good ?_ ?_)
    · intro hc; cases hc
    · intro _
      (refine CWp.skip ?_; (try simp (disch := omega) only [qA]))
      ((repeat refine CWp.seq ?_); refine CWp.region ?_)
      repeat (first | refine RL.w good ?_ | refine RL.k ?_)
      refine RL.nil ?_
      (try simp (disch := omega) only [qA])
      ((repeat refine CWp.seq ?_); refine CWp.cnd good ?_ ?_)
      · intro hc
        exfalso
        simp only [decide_eq_true_eq] at hc
        omega
      · intro _
        (refine CWp.skip ?_; (try simp (disch := omega) only [qA]))
        ((repeat refine CWp.seq ?_); refine CWp.region ?_)
        repeat (first | refine RL.w good ?_ | refine RL.k ?_)
        refine RL.nil ?_
        (try simp (disch := omega) only [qA])
        refine CWp.weakenT (T' := tl [(0, .slice (some ⟨nx, 0, none⟩) 3 k), (1, .int .i64 0), (2, .slice (some ⟨gv, 0, none⟩) 1 1), (7, .int .i64 1)]) (tl_less (by intro p hp; simp only [List.mem_cons, List.not_mem_nil, or_false] at hp; rcases hp with rfl | rfl | rfl | rfl <;> rfl)) ?_
        ((repeat refine CWp.seq ?_); refine CWp.region ?_)
        repeat (first | refine RL.w good ?_ | refine RL.k ?_)
        refine RL.raw good (by first | exact rfl | (simp only [push_cast, reduceIte, Nat.reduceEqDiff, *]; done) | (simp only [push_cast, reduceIte, Nat.reduceEqDiff, *]; exact rfl)) (AOne.overlaps rfl rfl (by simp (disch := omega) only [push_cast, reduceIte, Nat.reduceEqDiff, beq_self_eq_true, bne_self_eq_false, Int.reduceBEq, Int.reduceBNe, Int.reduceLT, Int.reduceLE, Nat.reduceAdd, Nat.reduceMul, Nat.reduceSub, Int.reduceToNat, Nat.reducePow, Int.reducePow, *] <;> exact rfl) rfl (by simp (disch := omega) only [push_cast, reduceIte, Nat.reduceEqDiff, beq_self_eq_true, bne_self_eq_false, Int.reduceBEq, Int.reduceBNe, Int.reduceLT, Int.reduceLE, Nat.reduceAdd, Nat.reduceMul, Nat.reduceSub, Int.reduceToNat, Nat.reducePow, Int.reducePow, *] <;> exact rfl) (by simp (disch := omega) only [push_cast, reduceIte, Nat.reduceEqDiff, beq_self_eq_true, bne_self_eq_false, Int.reduceBEq, Int.reduceBNe, Int.reduceLT, Int.reduceLE, Nat.reduceAdd, Nat.reduceMul, Nat.reduceSub, Int.reduceToNat, Nat.reducePow, Int.reducePow, *] <;> exact rfl) (by decide) (by decide) (by rw [ov_low0 hv]; exact hgv) (by rw [ov_low0 hn]; exact hg) (by simp) (by simp) hne' ?_)
        (try dsimp only)
        simp only [putT_tl]
        repeat (first | refine RL.w good ?_ | refine RL.k ?_)
        refine RL.nil ?_
        (try simp (disch := omega) only [qA])
        ((repeat refine CWp.seq ?_); refine CWp.cnd good ?_ ?_)
        · intro _
          ((repeat refine CWp.seq ?_); refine CWp.drawI good (fun g => memN g []) [(0, true), (1, true), (2, true), (3, true), (4, true), (5, true), (6, true), (7, true), (8, false)] (by kernel_rfl) (fun _ _ _ q => q) ?_)
          repeat (first | refine PL.w ?_ | refine PL.wk ?_ | refine PL.ew ?_ | refine PL.ewk ?_)
          refine PL.nil ?_
          (try simp (disch := omega) only [qA])
          ((repeat refine CWp.seq ?_); refine CWp.region ?_)
          repeat (first | refine RL.w good ?_ | refine RL.k ?_)
          refine RL.nil ?_
          (try simp (disch := omega) only [qA])
          ((repeat refine CWp.seq ?_); refine CWp.region ?_)
          repeat (first | refine RL.w good ?_ | refine RL.k ?_)
          refine RL.nil ?_
          (try simp (disch := omega) only [qA])
          (refine CWp.ret ?_; (try simp (disch := omega) only [qA]); refine rtQ ?_; (try simp only [oneV]))
          exact ⟨by trivial, by trivial⟩
        · intro hc; cases hc
end Go.Ab
namespace Go.Ab
open Go.Proofs
theorem insH_lt {h : Hp} {g e j i : Nat} {xs : List Value} (hi : i < h.next) (hne : ¬ i = g) : i < (insH h g e xs j).next ∧ (insH h g e xs j).get i = h.get i := by
  rw [insH_next, insH_get, if_neg (by omega), if_neg hne]
  exact ⟨by omega, rfl⟩
theorem f202c1 {h : Hp} {g o gv : Nat} {c : List Value} {a b x1 x2 : Int} (hg : h.get g = some (.cells c false 114)) (hld : ldN h.get ⟨g, o, none⟩ (1 * 2) = some [.int .i64 x1, .int .i64 x2]) (hgv : h.get gv = some (.cells [.int .i64 a, .int .i64 b] false 114)) (hne : ¬ gv = g) :
    ACalls Tryz.prog 202 [.slice (some ⟨g, o, none⟩) 1 (U + 2), .int .i64 0, .slice (some ⟨gv, 0, none⟩) 1 1] (fun en h' => en = .ret (.slice (some ⟨h.next, 0, none⟩) 2 (U + 2)) ∧ h' = insH h g 114 [.int .i64 a, .int .i64 b, .int .i64 x1, .int .i64 x2] 0) h := by
  refine ACalls.entry fun En _ => ?_
  have hv := En.lt gv (by rw [hgv]; simp)
  refine ACalls.insert (n := 1) (s := 2) (n2 := 2) hg rfl hld (by decide) rfl fun k' h1 h2 => ?_
  have h2' : k' < 18446744073709551616 := by have := h2; unfold U at this; omega
  obtain ⟨v1, v2⟩ := insH_lt (e := 114) (j := k' * 2 - 1 * 2) (xs := [.int .i64 x1, .int .i64 x2]) hv hne
  have hn : h.next < (insH h g 114 [.int .i64 x1, .int .i64 x2] (k' * 2 - 1 * 2)).next := by rw [insH_next]; omega
  have hgn : (insH h g 114 [.int .i64 x1, .int .i64 x2] (k' * 2 - 1 * 2)).get h.next = some (.cells ([.int .i64 x1, .int .i64 x2] ++ List.replicate (k' * 2 - 1 * 2) junk) false 114) := by rw [insH_get, if_pos rfl]
  rcases Nat.lt_or_ge 1 k' with hlt | hge
  · obtain ⟨t, ht⟩ : ∃ t, k' * 2 - 1 * 2 = t + 2 := ⟨k' * 2 - 4, by omega⟩
    rw [ht] at hgn v1 v2 hn ⊢
    refine (ins1room (k := k') (t := List.replicate t junk) hlt h2' hn v1 (by omega) hgn (v2.trans hgv)).mono ?_
    rintro en h' ⟨rfl, rfl⟩
    exact .inl ⟨hlt, rfl, _, rfl⟩
  · obtain rfl : k' = 1 := by omega
    refine (ins1full hn v1 hgn (v2.trans hgv)).mono ?_
    rintro en h' ⟨rfl, rfl⟩
    exact .inr ⟨rfl, rfl⟩
theorem f202c2 {h : Hp} {g o gv : Nat} {c : List Value} {a b x1 x2 x3 x4 : Int} (hg : h.get g = some (.cells c false 114)) (hld : ldN h.get ⟨g, o, none⟩ (2 * 2) = some [.int .i64 x1, .int .i64 x2, .int .i64 x3, .int .i64 x4]) (hgv : h.get gv = some (.cells [.int .i64 a, .int .i64 b] false 114)) (hne : ¬ gv = g) :
    ACalls Tryz.prog 202 [.slice (some ⟨g, o, none⟩) 2 (U + 2), .int .i64 0, .slice (some ⟨gv, 0, none⟩) 1 1] (fun en h' => en = .ret (.slice (some ⟨h.next, 0, none⟩) 3 (U + 2)) ∧ h' = insH h g 114 [.int .i64 a, .int .i64 b, .int .i64 x1, .int .i64 x2, .int .i64 x3, .int .i64 x4] 0) h := by
  refine ACalls.entry fun En _ => ?_
  have hv := En.lt gv (by rw [hgv]; simp)
  refine ACalls.insert (n := 2) (s := 2) (n2 := 3) hg rfl hld (by decide) rfl fun k' h1 h2 => ?_
  have h2' : k' < 18446744073709551616 := by have := h2; unfold U at this; omega
  obtain ⟨v1, v2⟩ := insH_lt (e := 114) (j := k' * 2 - 2 * 2) (xs := [.int .i64 x1, .int .i64 x2, .int .i64 x3, .int .i64 x4]) hv hne
  have hn : h.next < (insH h g 114 [.int .i64 x1, .int .i64 x2, .int .i64 x3, .int .i64 x4] (k' * 2 - 2 * 2)).next := by rw [insH_next]; omega
  have hgn : (insH h g 114 [.int .i64 x1, .int .i64 x2, .int .i64 x3, .int .i64 x4] (k' * 2 - 2 * 2)).get h.next = some (.cells ([.int .i64 x1, .int .i64 x2, .int .i64 x3, .int .i64 x4] ++ List.replicate (k' * 2 - 2 * 2) junk) false 114) := by rw [insH_get, if_pos rfl]
  rcases Nat.lt_or_ge 2 k' with hlt | hge
  · obtain ⟨t, ht⟩ : ∃ t, k' * 2 - 2 * 2 = t + 2 := ⟨k' * 2 - 6, by omega⟩
    rw [ht] at hgn v1 v2 hn ⊢
    refine (ins2room (k := k') (t := List.replicate t junk) hlt h2' hn v1 (by omega) hgn (v2.trans hgv)).mono ?_
    rintro en h' ⟨rfl, rfl⟩
    exact .inl ⟨hlt, rfl, _, rfl⟩
  · obtain rfl : k' = 2 := by omega
    refine (ins2full hn v1 hgn (v2.trans hgv)).mono ?_
    rintro en h' ⟨rfl, rfl⟩
    exact .inr ⟨rfl, rfl⟩
/-- slices.Insert of an order ahead of one or two -/
def pr202 : Prim := fun f args get nx => bif Nat.beq f 202 then
  (match args with
  | [.slice (some ⟨g, o, none⟩) n c, .int .i64 i, .slice (some ⟨gv, 0, none⟩) 1 1] =>
    bif Nat.beq c (U + 2) && (i == 0 && !Nat.beq gv g) then
      (match get g, get gv with
      | some (.cells _ false e), some (.cells [.int .i64 a, .int .i64 b] false e') =>
        bif Nat.beq e 114 && Nat.beq e' 114 then
          (match n, ldN get ⟨g, o, none⟩ (n * 2) with
          | 1, some [.int .i64 x1, .int .i64 x2] => some (.slice (some ⟨nx, 0, none⟩) 2 (U + 2), .take g (.cells [.int .i64 a, .int .i64 b, .int .i64 x1, .int .i64 x2] false 114))
          | 2, some [.int .i64 x1, .int .i64 x2, .int .i64 x3, .int .i64 x4] => some (.slice (some ⟨nx, 0, none⟩) 3 (U + 2), .take g (.cells [.int .i64 a, .int .i64 b, .int .i64 x1, .int .i64 x2, .int .i64 x3, .int .i64 x4] false 114))
          | _, _ => none)
        else none
      | _, _ => none)
    else none
  | _ => none) else none
theorem pr202ok : PrimOK Tryz.prog pr202 := by
  intro f args h v e hr
  unfold pr202 at hr
  cases hf : Nat.beq f 202 with
  | false => rw [hf] at hr; cases hr
  | true =>
    rw [hf] at hr
    simp only [cond_true] at hr
    obtain rfl := Nat.eq_of_beq_eq_true hf
    split at hr
    · rename_i g o n c i gv
      cases hc : (Nat.beq c (U + 2) && (i == 0 && !Nat.beq gv g)) with
      | false => rw [hc] at hr; cases hr
      | true =>
        rw [hc] at hr
        simp only [cond_true] at hr
        simp only [Bool.and_eq_true, Nat.beq_eq, beq_iff_eq, Bool.not_eq_true'] at hc
        obtain ⟨rfl, rfl, hne⟩ := hc
        have hne : ¬ gv = g := Nat.ne_of_beq_eq_false hne
        split at hr
        · rename_i cs e1 a b e2 hg hgv
          cases he : (Nat.beq e1 114 && Nat.beq e2 114) with
          | false => rw [he] at hr; cases hr
          | true =>
            rw [he] at hr
            simp only [cond_true] at hr
            simp only [Bool.and_eq_true, Nat.beq_eq] at he
            obtain ⟨rfl, rfl⟩ := he
            split at hr
            · rename_i x1 x2 hld
              cases hr
              exact ⟨en (by kernel_rfl), (f202c1 hg hld hgv hne).mono fun r h' ⟨p, q⟩ => ⟨p, q⟩⟩
            · rename_i x1 x2 x3 x4 hld
              cases hr
              exact ⟨en (by kernel_rfl), (f202c2 hg hld hgv hne).mono fun r h' ⟨p, q⟩ => ⟨p, q⟩⟩
            · cases hr
        · cases hr
    · cases hr
end Go.Ab
namespace Go.Ab
open Go.Proofs
theorem works61 : Works [61] := .cons (en (by kernel_rfl)) w61 .nil
theorem w63 (t : Nat) : ACalls Tryz.prog 63 [] (fun e _ => e = .ret (.bool true)) (hpOf (hp0 t) 5) := yes_calls (prOr_ok (prW_ok works61) (prOr_ok pr202ok pr1ok)) orc0ok (by kernel_rfl)
end Go.Ab
namespace Go.Ab
open Go.Proofs
theorem worksAll : Works [63, 62, 61, 59, 57, 55, 60, 58, 56, 54, 53] :=
  .cons (en (by kernel_rfl)) w63 (.cons (en (by kernel_rfl)) w62 (.cons (en (by kernel_rfl)) w61 (.cons (en (by kernel_rfl)) w59 (.cons (en (by kernel_rfl)) w57 (.cons (en (by kernel_rfl)) w55 works60)))))
theorem w33 (t : Nat) : ACalls Tryz.prog 33 [] (fun e _ => e = .ret (.bool true)) (hpOf (hp0 t) 5) := yes_calls (prW_ok worksAll) orc0ok (by kernel_rfl)
theorem Holds.ext {h h' b : Hp} (En : ∀ i, h.get i ≠ none → i < h.next) (hh : Holds h b) (x : Ext h h') : Holds h' b := fun i o hi => by
  obtain ⟨a, c⟩ := hh i o hi
  have e := x.2 i (En i a)
  rw [e]
  exact ⟨a, c⟩
/-- all examples hold, wherever the globals lie -/
theorem awake {t : Nat} {h : Hp} (hh : Holds h (hpOf (hp0 t) 5)) : ACalls Tryz.prog 33 [] (fun e _ => e = .ret (.bool true)) h := (lift (base0 t) rfl rfl (w33 t) hh).mono fun _ _ q => q.1
end Go.Ab
