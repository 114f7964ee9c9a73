/- A part of the proof of a law over a given program: Bld, Bld2, Bld3, W1, W2. -/
import Derived.Lib.Builder
import Derived.Lib.UnsafeStr
import Derived.Laws.Externs
import Derived.Test.YtckgcmgnpblnaaaGreatDoorT12
import Derived.Test.YtckgcmgnpblnaaaGreatDoorT14
import Derived.Test.YtckgcmgnpblnaaaGreatDoorT16
import Derived.Test.YtckgcmgnpblnaaaGreatDoorT17
set_option linter.unusedVariables false
set_option linter.unusedSimpArgs false
namespace Go.Ab
open Go.Proofs
set_option maxRecDepth 10000
attribute [local push_cast] ldN_lowU takeN_one Option.toList_some
theorem run218 (v : Value) (w : World) : (callFunc 218 #[v]).run Tryz.prog w = .ok (.value v) w := by
  rw [run_callFunc_extern (fn := Tryz.f218) (by kernel_rfl) (by kernel_rfl) (by kernel_rfl) (by kernel_rfl) (e := Extern.AbiNoEscape.same) (by kernel_rfl)]
  rw [Lib.run_noEscape]
  rfl
theorem up228 {h : Hp} {i : Nat} {c : List Value} {ro : Bool} {e : Nat} (hg : h.get i = some (.cells c ro e)) (hc : 0 < c.length) (ρ : Ren) (w : World) (l : Loc) (H : HR Tryz.prog ρ h w) (hl : ρ i = some l) :
    (convert 228 259 (.pointer (some ⟨l.blk, l.off, none⟩))).run Tryz.prog w = .ok (.pointer (some ⟨l.blk, l.off, none⟩)) w := by
  obtain ⟨l', cc, fr, g1, g2, g3, g4, _⟩ := H.cells hg
  rw [hl] at g1; cases g1
  obtain ⟨j, hj, hjs⟩ : ∃ j, Tryz.prog.info? 231 = some j ∧ j.size = 2 := ⟨_, rfl, rfl⟩
  exact Lib.run_to_unsafe w _ (t := 231) (by kernel_rfl) (by kernel_rfl) hj (by omega) (shape_cells g2) (by show l.off < cc.size; omega)
theorem down228 {h : Hp} {i : Nat} {c : List Value} (hg : h.get i = some (.cells c false 231)) (hc : 2 ≤ c.length) (ρ : Ren) (w : World) (l : Loc) (H : HR Tryz.prog ρ h w) (hl : ρ i = some l) :
    (convert 259 228 (.pointer (some ⟨l.blk, l.off, none⟩))).run Tryz.prog w = .ok (.pointer (some ⟨l.blk, l.off, none⟩)) w := by
  obtain ⟨l', cc, fr, g1, g2, g3, g4, g5, _⟩ := H.cells hg
  rw [hl] at g1; cases g1
  have h0 := (g5 rfl).1 rfl
  obtain ⟨j, hj⟩ : ∃ j, Tryz.prog.info? 231 = some j := ⟨_, rfl⟩
  have hco : Tryz.prog.cellsOf 231 = 1 + 1 := by kernel_rfl
  refine Lib.run_from_unsafe w _ (u := 231) (by kernel_rfl) (by kernel_rfl) hj (shape_cells g2) ?_
  show liesAt Tryz.prog Tryz.prog.depth 231 (cc.size / Tryz.prog.cellsOf 231) l.off 231 1 = true
  rw [h0]
  exact lies_head hco _ _ (by rw [hco]; omega)
theorem AOne.noesc {o : Oper} {T : Nat → Value} {h : Hp} {c : Call} {f x : Operand} (hop : o.op = .call c) (hc : c.callee = .value f) (hf : evo T f = .func (.func 218) #[] #[]) (ha : c.args = #[x]) {R RP : Value → Hp → Prop} (q : R (evo T x) h) : AOne Tryz.prog o T h R RP := fun ρ w ev H hv => by
  simp only [hop, Op.operands, Call.operands, hc, ha, Array.toList_append, List.mem_append] at hv
  have hfv := hv f (.inl (by simp))
  have hxv := hv x (.inr (by simp))
  rw [hf] at hfv
  obtain ⟨x', y', h1, h2, h3⟩ := hfv
  obtain rfl : x' = #[] := by
    have := VRA.iff.1 h2
    cases x' with | mk l => cases l with | nil => rfl | cons => obtain ⟨_, _, e, _⟩ | e := this <;> cases e
  obtain rfl : y' = #[] := by
    have := VRA.iff.1 h3
    cases y' with | mk l => cases l with | nil => rfl | cons => obtain ⟨_, _, e, _⟩ | e := this <;> cases e
  have hrun : (execOp ev o).run Tryz.prog w = .ok (.value (ev x)) w := by
    have := run218 (ev x) w
    simp [execOp, hop, resolve, hc, h1, Deferred.ofValue, invoke, ha] at this ⊢
    exact this
  unfold Raw
  rw [hrun]
  exact ⟨ρ, _, h, H, Fr.refl _ _ _ _, hxv, q⟩
theorem ov_same {h : Hp} (hlt : ∀ i, h.get i ≠ none → i < h.next) {b : Nat} {o : AObj} (hg : h.get b = some o) : Ab.ov h [(b, o)] [] 0 = h := by
  have hb := hlt b (by rw [hg]; simp)
  rw [← ov_self hlt] 
  conv => rhs; rw [ov_self hlt]
  refine Hp.ext' (fun i => ?_) (by rw [ov_next]; unfold loc; rw [ov_self hlt]; rfl)
  rw [ov_self hlt]
  by_cases hi : i < h.next
  · rw [ov_low hi]
    simp only [lk]
    by_cases e : b = i
    · rw [if_pos e, ← e, hg]
    · rw [if_neg e]
  · obtain ⟨a, rfl⟩ : ∃ a, i = loc h a := ⟨i - h.next, by unfold loc; omega⟩
    rw [ov_loc]
    cases e : h.get (loc h a) with
    | none => rfl
    | some o => exact absurd (hlt _ (by rw [e]; simp)) hi
set_option maxHeartbeats 4000000 in
theorem f209s {h : Hp} {b n c : Nat} {a p : Option Addr} (hb : b < h.next) (hg : h.get b = some (.cells [.pointer p, .slice a n c] false 231)) (hp : p = none ∨ p = some ⟨b, 0, none⟩) :
    ACalls Tryz.prog 209 [.pointer (some ⟨b, 0, none⟩)] (fun e h' => e = .ret (.tuple #[]) ∧ h' = Ab.ov h [(b, .cells [.pointer (some ⟨b, 0, none⟩), .slice a n c] false 231)] [] 0) h := by
  rcases hp with rfl | rfl
  · (refine ACalls.bodyB (fn := Tryz.f209) (ng := 4) (N := 20) (res := []) (by kernel_rfl) rfl rfl rfl (by kernel_rfl) (fun En hs => ?_); simp only [argsL, Nat.reduceAdd])
    clear hs
    ((repeat refine CWp.seq ?_); refine CWp.region ?_)
    repeat (first | refine RL.w good ?_ | refine RL.k ?_)
    refine RL.nil ?_
    (try simp (disch := omega) only [qA])
    ((repeat refine CWp.seq ?_); refine CWp.cnd good ?_ ?_)
    · intro _
      ((repeat refine CWp.seq ?_); refine CWp.region ?_)
      repeat (first | refine RL.w good ?_ | refine RL.k ?_)
      refine RL.raw good (by first | exact rfl | (simp only [push_cast, reduceIte, Nat.reduceEqDiff, *]; done) | (simp only [push_cast, reduceIte, Nat.reduceEqDiff, *]; exact rfl)) (AOne.cvt rfl (by simp (disch := omega) only [push_cast, reduceIte, Nat.reduceEqDiff, beq_self_eq_true, bne_self_eq_false, Int.reduceBEq, Int.reduceBNe, Int.reduceLT, Int.reduceLE, Nat.reduceAdd, Nat.reduceMul, Nat.reduceSub, Int.reduceToNat, Nat.reducePow, Int.reducePow, *] <;> exact rfl) ?_ (up228 (h := Ab.ov h [] [] 0) (i := b) (by rw [ov_low0 hb]; exact hg) (by simp)))
      (try dsimp only)
      simp only [putT_tl]
      refine RL.raw good (by first | exact rfl | (simp only [push_cast, reduceIte, Nat.reduceEqDiff, *]; done) | (simp only [push_cast, reduceIte, Nat.reduceEqDiff, *]; exact rfl)) (AOne.noesc rfl rfl (by simp (disch := omega) only [push_cast, reduceIte, Nat.reduceEqDiff, beq_self_eq_true, bne_self_eq_false, Int.reduceBEq, Int.reduceBNe, Int.reduceLT, Int.reduceLE, Nat.reduceAdd, Nat.reduceMul, Nat.reduceSub, Int.reduceToNat, Nat.reducePow, Int.reducePow, *] <;> exact rfl) rfl ?_)
      (try dsimp only)
      simp only [putT_tl]
      refine RL.raw good (by first | exact rfl | (simp only [push_cast, reduceIte, Nat.reduceEqDiff, *]; done) | (simp only [push_cast, reduceIte, Nat.reduceEqDiff, *]; exact rfl)) (AOne.cvt rfl (by simp (disch := omega) only [push_cast, reduceIte, Nat.reduceEqDiff, beq_self_eq_true, bne_self_eq_false, Int.reduceBEq, Int.reduceBNe, Int.reduceLT, Int.reduceLE, Nat.reduceAdd, Nat.reduceMul, Nat.reduceSub, Int.reduceToNat, Nat.reducePow, Int.reducePow, *] <;> exact rfl) ?_ (down228 (h := Ab.ov h [] [] 0) (i := b) (by rw [ov_low0 hb]; exact hg) (by simp)))
      (try dsimp only)
      simp only [putT_tl]
      repeat (first | refine RL.w good ?_ | refine RL.k ?_)
      refine RL.nil ?_
      (try simp (disch := omega) only [qA])
      ((try simp (disch := omega) only [qA]); refine nmQ ?_; (try simp only [oneV]))
      trivial
    · intro hc; cases hc
  · (refine ACalls.bodyB (fn := Tryz.f209) (ng := 4) (N := 20) (res := []) (by kernel_rfl) rfl rfl rfl (by kernel_rfl) (fun En hs => ?_); simp only [argsL, Nat.reduceAdd])
    clear hs
    ((repeat refine CWp.seq ?_); refine CWp.region ?_)
    repeat (first | refine RL.w good ?_ | refine RL.k ?_)
    refine RL.nil ?_
    (try simp (disch := omega) only [qA])
    ((repeat refine CWp.seq ?_); refine CWp.cnd good ?_ ?_)
    · intro hc; cases hc
    · intro _
      ((repeat refine CWp.seq ?_); refine CWp.region ?_)
      repeat (first | refine RL.w good ?_ | refine RL.k ?_)
      refine RL.nil ?_
      (try simp (disch := omega) only [qA])
      ((repeat refine CWp.seq ?_); refine CWp.cnd good ?_ ?_)
      · intro hc
        first | cases hc | simp at hc
      · (intro hc; (try simp only [decide_eq_true_eq, decide_eq_false_iff_not, Bool.not_eq_true, Bool.not_eq_false, Int.not_lt, Int.not_le, bne_iff_ne, beq_iff_eq, ne_eq, Bool.not_eq_eq_eq_not, Bool.not_true, Bool.not_false] at hc))
        (refine CWp.skip ?_; (try simp (disch := omega) only [qA]))
        ((try simp (disch := omega) only [qA]); refine nmQ ?_; (try simp only [oneV]))
        exact ⟨by trivial, (ov_self En.lt).trans (ov_same En.lt hg).symm⟩
def u8V (l : List Int) : List Value := l.map (.int .u8)
theorem u8V_length (l : List Int) : (u8V l).length = l.length := by simp [u8V]
theorem takeN_u8E {l : List Int} {n : Nat} (h : n = l.length) : takeN n (u8V l) = u8V l := by rw [takeN_eq, h, ← u8V_length l, List.take_length]
theorem u8_snoc (l : List Int) (x : Int) : u8V l ++ [.int .u8 x] = u8V (l ++ [x]) := by simp [u8V]
theorem ones_u8 : ∀ (l : List Int), ones (u8V l) = true
  | [] => rfl
  | _ :: l => by show (bif one _ then ones (u8V l) else false) = true; simp [one, ones_u8 l]
attribute [local push_cast] takeN_u8E u8V_length u8_snoc ones_u8 ov_low
/-- a builder that has been written to -/
def Built (h : Hp) (b : Nat) (l : List Int) (Z : Nat → Prop) : Prop := ∃ p v, h.get b = some (.cells [.pointer p, v] false 231) ∧ b < h.next ∧ Z b ∧ (p = none ∨ p = some ⟨b, 0, none⟩) ∧ ((v = .slice none 0 0 ∧ l = []) ∨ ∃ g, v = .slice (some ⟨g, 0, none⟩) l.length (U + 1) ∧ g ≠ b ∧ g < h.next ∧ Z g ∧ h.get g = some (.cells (u8V l) false 5))
theorem built_ov {h : Hp} {b j k n : Nat} {l : List Int} {Z : Nat → Prop} {U' L : List (Nat × AObj)} (hb : b < h.next) (hZ : Z b) (hU : lk U' b = some (.cells [.pointer (some ⟨b, 0, none⟩), .slice (some ⟨loc h j, 0, none⟩) n (U + 1)] false 231)) (hn : n = l.length) (hj : j < k)
    (hL : lk L j = some (.cells (u8V l) false 5)) (hUs : ∀ p ∈ U', Z p.1) : Built (Ab.ov h U' L k) b l (fun i => Z i ∨ (h.next ≤ i ∧ i < (Ab.ov h U' L k).next)) ∧ h.next ≤ (Ab.ov h U' L k).next ∧ ∀ i, i < h.next → ¬ Z i → (Ab.ov h U' L k).get i = h.get i := by
  have hnx : (Ab.ov h U' L k).next = h.next + k := by rw [ov_next]; unfold loc; rfl
  have hlj : loc h j = h.next + j := by unfold loc; rfl
  refine ⟨⟨_, _, by rw [ov_low hb, hU], by omega, .inl hZ, .inr rfl, .inr ⟨loc h j, by rw [hn], by omega, by omega, .inr ⟨by omega, by omega⟩, by rw [ov_loc]; exact hL⟩⟩, by omega, fun i hi hz => ?_⟩
  rw [ov_low hi]
  cases hl : lk U' i with
  | none => rfl
  | some o => exact absurd (hUs _ (lk_mem hl)) hz
set_option maxHeartbeats 4000000 in
theorem f186s {h : Hp} {b : Nat} {l : List Int} {Z : Nat → Prop} {x : Int} (hB : Built h b l Z) (hl : l.length ≤ 1000) :
    ACalls Tryz.prog 186 [.pointer (some ⟨b, 0, none⟩), .int .u8 x] (fun e h' => e = .ret .nilIface ∧ Built h' b (l ++ [x]) (fun i => Z i ∨ (h.next ≤ i ∧ i < h'.next)) ∧ h.next ≤ h'.next ∧ ∀ i, i < h.next → ¬ Z i → h'.get i = h.get i) h := by
  obtain ⟨p, v, hg, hb, hZ, hp, hv⟩ := hB
  rcases hv with ⟨rfl, rfl⟩ | ⟨g, rfl, hgb, hgn, hZg, hgg⟩
  · (refine ACalls.bodyB (fn := Tryz.f186) (ng := 4) (N := 17) (res := [.tmp 4]) (by kernel_rfl) rfl rfl rfl (by kernel_rfl) (fun En hs => ?_); simp only [argsL, Nat.reduceAdd])
    clear hs
    ((repeat refine CWp.seq ?_); refine CWp.region ?_)
    repeat (first | refine RL.w good ?_ | refine RL.k ?_)
    refine RL.nil ?_
    (try simp (disch := omega) only [qA])
    ((repeat refine CWp.seq ?_); refine CWp.region ?_)
    repeat (first | refine RL.w good ?_ | refine RL.k ?_)
    (refine' RL.c good ?_ ?_ ?_; rotate_left)
    · rw [ov_self En.lt]; exact f209s hb hg hp
    · rintro v h' ⟨e, rfl⟩
      cases e
      refine RL.nil ?_
      (try simp (disch := omega) only [qA])
      ((repeat refine CWp.seq ?_); refine CWp.region ?_)
      repeat (first | refine RL.w good ?_ | refine RL.k ?_)
      refine RL.nil ?_
      (try simp (disch := omega) only [qA])
      ((repeat refine CWp.seq ?_); refine CWp.region ?_)
      repeat (first | refine RL.w good ?_ | refine RL.k ?_)
      refine RL.nil ?_
      (try simp (disch := omega) only [qA])
      (refine CWp.ret ?_; (try simp (disch := omega) only [qA]); refine rtQ ?_; (try simp only [oneV]))
      refine ⟨trivial, ?_⟩
      exact built_ov (j := 1) hb hZ (by simp [lk]) rfl (by decide) rfl (by simp [hZ])
    · rintro v h' ⟨e, _⟩; cases e
  · have hbg : ¬ b = g := fun e => hgb e.symm
    (refine ACalls.bodyB (fn := Tryz.f186) (ng := 4) (N := 17) (res := [.tmp 4]) (by kernel_rfl) rfl rfl rfl (by kernel_rfl) (fun En hs => ?_); simp only [argsL, Nat.reduceAdd])
    clear hs
    ((repeat refine CWp.seq ?_); refine CWp.region ?_)
    repeat (first | refine RL.w good ?_ | refine RL.k ?_)
    refine RL.nil ?_
    (try simp (disch := omega) only [qA])
    ((repeat refine CWp.seq ?_); refine CWp.region ?_)
    repeat (first | refine RL.w good ?_ | refine RL.k ?_)
    (refine' RL.c good ?_ ?_ ?_; rotate_left)
    · rw [ov_self En.lt]; exact f209s hb hg hp
    · rintro v h' ⟨e, rfl⟩
      cases e
      refine RL.nil ?_
      (try simp (disch := omega) only [qA])
      ((repeat refine CWp.seq ?_); refine CWp.region ?_)
      repeat (first | refine RL.w good ?_ | refine RL.k ?_)
      refine RL.nil ?_
      (try simp (disch := omega) only [qA])
      ((repeat refine CWp.seq ?_); refine CWp.region ?_)
      repeat (first | refine RL.w good ?_ | refine RL.k ?_)
      refine RL.nil ?_
      (try simp (disch := omega) only [qA])
      (refine CWp.ret ?_; (try simp (disch := omega) only [qA]); refine rtQ ?_; (try simp only [oneV]))
      refine ⟨trivial, ?_⟩
      (try simp only [upd, hbg, hgb, if_false, if_true])
      exact built_ov (j := 1) (n := l.length + 1) hb hZ (by simp [lk, upd, hbg, hgb]) (by simp) (by decide) (by first | rfl | simp [lk, upd]) (by simp [hZ, hZg])
    · rintro v h' ⟨e, _⟩; cases e
/-- what is new may be given up -/
theorem fades_ext {P : Program} {h h' : Hp} (En : Entry P h) (x : Ext h h') : Fades P h.next id h' h where
  low := fun _ _ => rfl
  inj := fun _ _ _ _ e => e
  ob := fun i o' hi => ⟨o', (x.2 i (En.lt i (by rw [hi]; simp))).trans hi, FO.mono (fun i j ⟨e, q⟩ => ⟨q, e⟩) (En.shut i o' hi)⟩
  lt := En.lt
  nx := Nat.le_refl _
  dom := fun i hi q => by rwa [x.2 i hi] at q
  gl := En.gl
theorem EndB.ext {P : Program} {h h' : Hp} (En : Entry P h) (x : Ext h h') {v : Value} {Q : AEnd → Hp → Prop} (hv : plainV v = true) (q : Q (.ret v) h) : EndB P h Q (.ret v) h' :=
  ⟨id, h, v, fades_ext En x, plainFV hv, q⟩
end Go.Ab
namespace Go.Ab
open Go.Proofs
set_option maxRecDepth 10000
attribute [local push_cast] ldN_lowU takeN_one Option.toList_some takeN_u8E u8V_length u8_snoc ones_u8 ov_low
set_option maxHeartbeats 4000000 in
theorem f187s {h : Hp} {b : Nat} {l : List Int} {Z : Nat → Prop} (hB : Built h b l Z) (h0 : l ≠ []) (hl : l.length ≤ 1000) (hy : IsBytes l) :
    ACalls Tryz.prog 187 [.pointer (some ⟨b, 0, none⟩)] (fun e h' => e = .ret (.string (bytesOf l)) ∧ h.next ≤ h'.next ∧ ∀ i, i < h.next → ¬ Z i → h'.get i = h.get i) h := by
  obtain ⟨p, v, hg, hb, hZ, hp, hv⟩ := hB
  rcases hv with ⟨rfl, rfl⟩ | ⟨g, rfl, hgb, hgn, hZg, hgg⟩
  · exact absurd rfl h0
  have hpos : 0 < l.length := by
    cases l with
    | nil => exact absurd rfl h0
    | cons => simp
  (refine ACalls.bodyB (fn := Tryz.f187) (ng := 4) (N := 14) (res := [.tmp 2]) (by kernel_rfl) rfl rfl rfl (by kernel_rfl) (fun En hs => ?_); simp only [argsL, Nat.reduceAdd])
  clear hs
  ((repeat refine CWp.seq ?_); refine CWp.region ?_)
  repeat (first | refine RL.w good ?_ | refine RL.k ?_)
  refine RL.nil ?_
  (try simp (disch := omega) only [qA])
  ((repeat refine CWp.seq ?_); refine CWp.drawI good (fun g => memN g []) [(0, true), (1, true), (2, true), (3, true), (5, true), (6, true), (7, true), (8, true), (9, true), (4, false), (10, false), (11, true)] (by kernel_rfl) (fun _ _ _ q => q) ?_)
  repeat (first | refine PL.w ?_ | refine PL.wk ?_ | refine PL.ew ?_ | refine PL.ewk ?_)
  refine PL.raw (by first | exact rfl | (simp only [push_cast, reduceIte, Nat.reduceEqDiff, *]; done) | (simp only [push_cast, reduceIte, Nat.reduceEqDiff, *]; exact rfl)) (AOne.usd rfl rfl rfl (by simp (disch := omega) only [push_cast, reduceIte, Nat.reduceEqDiff, beq_self_eq_true, bne_self_eq_false, Int.reduceBEq, Int.reduceBNe, Int.reduceLT, Int.reduceLE, Nat.reduceAdd, Nat.reduceMul, Nat.reduceSub, Int.reduceToNat, Nat.reducePow, Int.reducePow, *] <;> exact rfl) hpos ⟨by (· ((repeat (first | exact ReF.nil | refine ReF.dep (by exact rfl) ?_ | (apply ReF.op; (· (simp (disch := omega) only [push_cast, reduceIte, Nat.reduceEqDiff, beq_self_eq_true, bne_self_eq_false, Int.reduceBEq, Int.reduceBNe, Int.reduceLT, Int.reduceLE, Nat.reduceAdd, Nat.reduceMul, Nat.reduceSub, Int.reduceToNat, Nat.reducePow, Int.reducePow, *] <;> exact rfl))))))), ?_⟩)
  (try dsimp only)
  simp only [putT_tl]
  repeat (first | refine PL.w ?_ | refine PL.wk ?_ | refine PL.ew ?_ | refine PL.ewk ?_)
  refine PL.raw (by first | exact rfl | (simp only [push_cast, reduceIte, Nat.reduceEqDiff, *]; done) | (simp only [push_cast, reduceIte, Nat.reduceEqDiff, *]; exact rfl)) (AOne.ustr (g := g) (n := l.length) (l := l) (e := 5) (pt := 253) (it := 3) rfl rfl rfl rfl (by kernel_rfl) (by kernel_rfl) (by simp (disch := omega) only [push_cast, reduceIte, Nat.reduceEqDiff, beq_self_eq_true, bne_self_eq_false, Int.reduceBEq, Int.reduceBNe, Int.reduceLT, Int.reduceLE, Nat.reduceAdd, Nat.reduceMul, Nat.reduceSub, Int.reduceToNat, Nat.reducePow, Int.reducePow, *] <;> exact rfl) (by simp (disch := omega) only [push_cast, reduceIte, Nat.reduceEqDiff, beq_self_eq_true, bne_self_eq_false, Int.reduceBEq, Int.reduceBNe, Int.reduceLT, Int.reduceLE, Nat.reduceAdd, Nat.reduceMul, Nat.reduceSub, Int.reduceToNat, Nat.reducePow, Int.reducePow, *] <;> exact rfl) rfl h0 (by omega) (by rw [ov_low0 hgn]; exact hgg) rfl hy ⟨?_, ?_⟩)
  · rw [set_low hgn]
    (· ((repeat (first | exact ReF.nil | refine ReF.dep (by exact rfl) ?_ | (apply ReF.op; (· (simp (disch := omega) only [push_cast, reduceIte, Nat.reduceEqDiff, beq_self_eq_true, bne_self_eq_false, Int.reduceBEq, Int.reduceBNe, Int.reduceLT, Int.reduceLE, Nat.reduceAdd, Nat.reduceMul, Nat.reduceSub, Int.reduceToNat, Nat.reducePow, Int.reducePow, *] <;> exact rfl)))))))
  (try dsimp only)
  rw [set_low hgn]
  simp only [putT_tl]
  repeat (first | refine PL.w ?_ | refine PL.wk ?_ | refine PL.ew ?_ | refine PL.ewk ?_)
  refine PL.nil ?_
  (try simp (disch := omega) only [qA])
  (refine CWp.ret ?_; (try simp (disch := omega) only [qA]); refine rtQ ?_; (try simp only [oneV]))
  refine ⟨by trivial, by rw [ov_next]; unfold loc; omega, fun i hi hz => ?_⟩
  rw [ov_low hi]
  simp only [upd, lk]
  rw [if_neg (fun e : g = i => hz (e ▸ hZg))]
end Go.Ab
namespace Go.Ab
open Go.Proofs
set_option maxRecDepth 10000
attribute [local push_cast] ldN_lowU takeN_one Option.toList_some takeN_u8E u8V_length u8_snoc ones_u8 ov_low
theorem Built.mono {h : Hp} {b : Nat} {l : List Int} {Z Z' : Nat → Prop} (hz : ∀ i, Z i → Z' i) (B : Built h b l Z) : Built h b l Z' := by
  obtain ⟨p, v, h1, h2, h3, h4, h5⟩ := B
  refine ⟨p, v, h1, h2, hz _ h3, h4, ?_⟩
  rcases h5 with h5 | ⟨g, a, b, c, d, e⟩
  · exact .inl h5
  · exact .inr ⟨g, a, b, c, hz _ d, e⟩
/-- the creases of three layers -/
def crease (a b : Int) (up : Bool) : Int := bif decide (a < b) == up then 118 else 109
theorem crease_byte (a b : Int) (up : Bool) : 0 ≤ crease a b up ∧ crease a b up < 256 := by
  unfold crease
  cases (decide (a < b) == up) <;> decide
def folds3 (a b c : Int) : Nat → List Int
  | 0 => []
  | 1 => [crease a b true]
  | _ => [crease a b true, crease b c false]
structure FoldI (h : Hp) (i0 i1 : Nat) (cs : List Value) (a b c : Int) (k : Nat) (h' : Hp) : Prop where
  nx0 : i0 < h'.next
  nx1 : i1 < h'.next
  nx : h.next ≤ h'.next
  bx : h'.get i0 = some (.cells cs false 182)
  bt : Built h' i1 (folds3 a b c k) (fun i => h.next ≤ i ∧ i ≠ i0)
  low : ∀ i, i < h.next → h'.get i = h.get i
theorem FoldI.step {h h1 h2 : Hp} {i0 i1 : Nat} {cs : List Value} {a b c : Int} {k : Nat} {l : List Int} {x : Int} (I : FoldI h i0 i1 cs a b c k h1) (hn0 : h.next ≤ i0)
    (q : Built h2 i1 (l ++ [x]) (fun i => (h.next ≤ i ∧ i ≠ i0) ∨ (h1.next ≤ i ∧ i < h2.next)) ∧ h1.next ≤ h2.next ∧ ∀ i, i < h1.next → ¬ (h.next ≤ i ∧ i ≠ i0) → h2.get i = h1.get i) (e : l ++ [x] = folds3 a b c (k + 1)) : FoldI h i0 i1 cs a b c (k + 1) h2 := by
  obtain ⟨a1, a2, a3, a4, a5, a6⟩ := I
  obtain ⟨q1, q2, q3⟩ := q
  refine ⟨by omega, by omega, by omega, by rw [q3 i0 a1 (by omega), a4], ?_, fun i hi => by rw [q3 i (by omega) (by omega), a6 i hi]⟩
  rw [← e]
  exact q1.mono fun i hi => by omega
set_option maxHeartbeats 4000000 in
theorem f134s (h : Hp) (a b c d e f g : Int) : ACalls Tryz.prog 134 [.agg #[.int .i64 a, .int .i64 b, .int .i64 c, .int .i64 d, .int .i64 e, .int .i64 f, .int .i64 g], .int .i64 3] (fun e h' => e = .ret (.string (bytesOf (folds3 a b c 2))) ∧ h' = h) h := by
  (refine ACalls.bodyB (fn := Tryz.f134) (ng := 4) (N := 28) (res := [.tmp 4]) (by kernel_rfl) rfl rfl rfl (by kernel_rfl) (fun En hs => ?_); simp only [argsL, Nat.reduceAdd])
  clear hs
  ((repeat refine CWp.seq ?_); refine CWp.region ?_)
  repeat (first | refine RL.w good ?_ | refine RL.k ?_)
  refine RL.nil ?_
  (try simp (disch := omega) only [qA])
  ((repeat refine CWp.seq ?_); refine CWp.region ?_)
  repeat (first | refine RL.w good ?_ | refine RL.k ?_)
  refine RL.nil ?_
  (try simp (disch := omega) only [qA])
  ((repeat refine CWp.seq ?_); refine CWp.region ?_)
  repeat (first | refine RL.w good ?_ | refine RL.k ?_)
  refine RL.nil ?_
  (try simp (disch := omega) only [qA])
  ((repeat refine CWp.seq ?_); refine CWp.block ?_)
  have I0 : FoldI h (loc h 0) (loc h 1) [.int .i64 a, .int .i64 b, .int .i64 c, .int .i64 d, .int .i64 e, .int .i64 f, .int .i64 g] a b c 0 (Ab.ov h [] [(1, .cells [.pointer none, .slice none 0 0] false 231), (0, .cells [.int .i64 a, .int .i64 b, .int .i64 c, .int .i64 d, .int .i64 e, .int .i64 f, .int .i64 g] false 182)] 2) :=
    ⟨by rw [ov_next, loc_lt]; omega, by rw [ov_next, loc_lt]; omega, by rw [ov_next]; unfold loc; omega, by rw [ov_loc]; rfl,
      ⟨none, _, by rw [ov_loc]; rfl, by rw [ov_next, loc_lt]; omega, by unfold loc; omega, .inl rfl, .inl ⟨rfl, rfl⟩⟩, fun i hi => ov_low0 hi⟩
  have hn0 : h.next ≤ loc h 0 := by unfold loc; omega
  have hn1 : h.next ≤ loc h 1 := by unfold loc; omega
  have hne : ¬ loc h 0 = loc h 1 := by unfold loc; omega
  generalize loc h 0 = i0 at *
  generalize loc h 1 = i1 at *
  refine CWp.loopR (α := Nat × Hp) (fun s => (tl [(9, .int .i64 (s.1 : Nat)), (8, .int .i64 2), (5, .pointer (some ⟨i1, 0, none⟩)), (2, .pointer (some ⟨i0, 0, none⟩))], s.2)) (fun s => 2 - s.1)
    (fun s => s.1 ≤ 2 ∧ FoldI h i0 i1 [.int .i64 a, .int .i64 b, .int .i64 c, .int .i64 d, .int .i64 e, .int .i64 f, .int .i64 g] a b c s.1 s.2) (0, _) ⟨by omega, I0⟩ ?_ rfl ?_
  · exact tl_less (by simp [lk])
  · clear I0
    rintro ⟨k, h1⟩ ⟨hk, I⟩
    dsimp only at hk I ⊢
    refine CWp.entry fun En1 => ?_
    rw [← ov_self En1.lt]
    have hb0 := I.nx0
    have hg0 := I.bx
    replace I := Hid.mk I
    have hk3 : k = 0 ∨ k = 1 ∨ k = 2 := by omega
    rcases hk3 with rfl | rfl | rfl
    · ((repeat refine CWp.seq ?_); refine CWp.region ?_)
      repeat (first | refine RL.w good ?_ | refine RL.k ?_)
      refine RL.nil ?_
      (try simp (disch := omega) only [qA])
      ((repeat refine CWp.seq ?_); refine CWp.cnd good ?_ ?_)
      · intro _
        (refine CWp.skip ?_; (try simp (disch := omega) only [qA]))
        (repeat refine CWp.seq ?_)
        refine CWp.block ?_
        ((repeat refine CWp.seq ?_); refine CWp.region ?_)
        repeat (first | refine RL.w good ?_ | refine RL.k ?_)
        refine RL.nil ?_
        (try simp (disch := omega) only [qA])
        ((repeat refine CWp.seq ?_); refine CWp.drawI good (fun g => memN g []) [(0, true), (1, true), (2, true), (3, true), (4, true), (5, true), (6, true), (7, true), (8, true), (9, true), (10, true), (11, true)] (by kernel_rfl) (fun _ _ _ q => q) ?_)
        repeat (first | refine PL.w ?_ | refine PL.wk ?_ | refine PL.ew ?_ | refine PL.ewk ?_)
        refine PL.nil ?_
        (try simp (disch := omega) only [qA])
        ((repeat refine CWp.seq ?_); refine CWp.cnd good ?_ ?_)
        · intro hx
          have ec : crease a b true = 118 := by unfold crease; rw [show (decide (a < b) == true) = true from hx]; rfl
          clear hx
          ((repeat refine CWp.seq ?_); refine CWp.region ?_)
          repeat (first | refine RL.w good ?_ | refine RL.k ?_)
          (refine' RL.c good ?_ ?_ ?_; rotate_left)
          · rw [ov_self En1.lt]; exact f186s I.out.bt (by simp [folds3])
          · rintro v h2 ⟨e1, q⟩
            cases e1
            refine RL.nil ?_
            (try simp (disch := omega) only [qA])
            ((repeat refine CWp.seq ?_); refine CWp.region ?_)
            repeat (first | refine RL.w good ?_ | refine RL.k ?_)
            refine RL.nil ?_
            (try simp (disch := omega) only [qA])
            refine ⟨(1, h2), ⟨by omega, I.out.step hn0 q (by simp [folds3, ec])⟩, by (try dsimp only); omega, tl_less (by simp [lk]), rfl⟩
          · rintro v h2 ⟨e1, _⟩; cases e1
        · intro hx
          have ec : crease a b true = 109 := by unfold crease; rw [show (decide (a < b) == true) = false from hx]; rfl
          clear hx
          ((repeat refine CWp.seq ?_); refine CWp.region ?_)
          repeat (first | refine RL.w good ?_ | refine RL.k ?_)
          (refine' RL.c good ?_ ?_ ?_; rotate_left)
          · rw [ov_self En1.lt]; exact f186s I.out.bt (by simp [folds3])
          · rintro v h2 ⟨e1, q⟩
            cases e1
            refine RL.nil ?_
            (try simp (disch := omega) only [qA])
            ((repeat refine CWp.seq ?_); refine CWp.region ?_)
            repeat (first | refine RL.w good ?_ | refine RL.k ?_)
            refine RL.nil ?_
            (try simp (disch := omega) only [qA])
            refine ⟨(1, h2), ⟨by omega, I.out.step hn0 q (by simp [folds3, ec])⟩, by (try dsimp only); omega, tl_less (by simp [lk]), rfl⟩
          · rintro v h2 ⟨e1, _⟩; cases e1
      · intro hc; cases hc
    · ((repeat refine CWp.seq ?_); refine CWp.region ?_)
      repeat (first | refine RL.w good ?_ | refine RL.k ?_)
      refine RL.nil ?_
      (try simp (disch := omega) only [qA])
      ((repeat refine CWp.seq ?_); refine CWp.cnd good ?_ ?_)
      · intro _
        (refine CWp.skip ?_; (try simp (disch := omega) only [qA]))
        (repeat refine CWp.seq ?_)
        refine CWp.block ?_
        ((repeat refine CWp.seq ?_); refine CWp.region ?_)
        repeat (first | refine RL.w good ?_ | refine RL.k ?_)
        refine RL.nil ?_
        (try simp (disch := omega) only [qA])
        ((repeat refine CWp.seq ?_); refine CWp.drawI good (fun g => memN g []) [(0, true), (1, true), (2, true), (3, true), (4, true), (5, true), (6, true), (7, true), (8, true), (9, true), (10, true), (11, true)] (by kernel_rfl) (fun _ _ _ q => q) ?_)
        repeat (first | refine PL.w ?_ | refine PL.wk ?_ | refine PL.ew ?_ | refine PL.ewk ?_)
        refine PL.nil ?_
        (try simp (disch := omega) only [qA])
        ((repeat refine CWp.seq ?_); refine CWp.cnd good ?_ ?_)
        · intro hx
          have ec : crease b c false = 118 := by unfold crease; rw [show (decide (b < c) == false) = true from hx]; rfl
          clear hx
          ((repeat refine CWp.seq ?_); refine CWp.region ?_)
          repeat (first | refine RL.w good ?_ | refine RL.k ?_)
          (refine' RL.c good ?_ ?_ ?_; rotate_left)
          · rw [ov_self En1.lt]; exact f186s I.out.bt (by simp [folds3])
          · rintro v h2 ⟨e1, q⟩
            cases e1
            refine RL.nil ?_
            (try simp (disch := omega) only [qA])
            ((repeat refine CWp.seq ?_); refine CWp.region ?_)
            repeat (first | refine RL.w good ?_ | refine RL.k ?_)
            refine RL.nil ?_
            (try simp (disch := omega) only [qA])
            refine ⟨(2, h2), ⟨by omega, I.out.step hn0 q (by simp [folds3, ec])⟩, by (try dsimp only); omega, tl_less (by simp [lk]), rfl⟩
          · rintro v h2 ⟨e1, _⟩; cases e1
        · intro hx
          have ec : crease b c false = 109 := by unfold crease; rw [show (decide (b < c) == false) = false from hx]; rfl
          clear hx
          ((repeat refine CWp.seq ?_); refine CWp.region ?_)
          repeat (first | refine RL.w good ?_ | refine RL.k ?_)
          (refine' RL.c good ?_ ?_ ?_; rotate_left)
          · rw [ov_self En1.lt]; exact f186s I.out.bt (by simp [folds3])
          · rintro v h2 ⟨e1, q⟩
            cases e1
            refine RL.nil ?_
            (try simp (disch := omega) only [qA])
            ((repeat refine CWp.seq ?_); refine CWp.region ?_)
            repeat (first | refine RL.w good ?_ | refine RL.k ?_)
            refine RL.nil ?_
            (try simp (disch := omega) only [qA])
            refine ⟨(2, h2), ⟨by omega, I.out.step hn0 q (by simp [folds3, ec])⟩, by (try dsimp only); omega, tl_less (by simp [lk]), rfl⟩
          · rintro v h2 ⟨e1, _⟩; cases e1
      · intro hc; cases hc
    · ((repeat refine CWp.seq ?_); refine CWp.region ?_)
      repeat (first | refine RL.w good ?_ | refine RL.k ?_)
      refine RL.nil ?_
      (try simp (disch := omega) only [qA])
      ((repeat refine CWp.seq ?_); refine CWp.cnd good ?_ ?_)
      · intro hc; cases hc
      · intro _
        (refine CWp.exit ?_; (try simp (disch := omega) only [qA]))
        ((repeat refine CWp.seq ?_); refine CWp.region ?_)
        repeat (first | refine RL.w good ?_ | refine RL.k ?_)
        (refine' RL.c good ?_ ?_ ?_; rotate_left)
        · rw [ov_self En1.lt]
          refine f187s I.out.bt (by simp [folds3]) (by simp [folds3]) ?_
          intro x hx
          simp only [folds3, List.mem_cons, List.not_mem_nil, or_false] at hx
          rcases hx with rfl | rfl <;> exact crease_byte _ _ _
        · rintro v h2 ⟨e1, q⟩
          cases e1
          repeat (first | refine RL.w good ?_ | refine RL.k ?_)
          refine RL.nil ?_
          (try simp (disch := omega) only [qA])
          (refine CWp.ret ?_; (try simp (disch := omega) only [qA]); refine rtB ?_; (try simp only [oneV]))
          have I := I.out
          refine EndB.ext En ⟨by have := I.nx; omega, fun i hi => ?_⟩ rfl ⟨rfl, rfl⟩
          rw [q.2 i (by have := I.nx; omega) (by omega), I.low i hi]
        · rintro v h2 ⟨e1, _⟩; cases e1
end Go.Ab
namespace Go.Ab
open Go.Proofs
/-- .. and what heights.folds tells of three layers -/
def pr134 : Prim := fun f args _ _ => bif Nat.beq f 134 then (match args with | [.agg ⟨[.int .i64 a, .int .i64 b, .int .i64 c, .int .i64 d, .int .i64 e, .int .i64 g, .int .i64 k]⟩, .int .i64 n] => bif n == 3 then some (.string (bytesOf (folds3 a b c 2)), .keep) else none | _ => none) else none
theorem pr134ok : PrimOK Tryz.prog pr134 := by
  intro f args h v e hr
  unfold pr134 at hr
  cases hf : Nat.beq f 134 with
  | false => rw [hf] at hr; cases hr
  | true =>
    rw [hf] at hr
    simp only [cond_true] at hr
    obtain rfl := Nat.eq_of_beq_eq_true hf
    split at hr
    · rename_i a b c d e g k n
      cases hn : (n == 3) with
      | false => rw [hn] at hr; cases hr
      | true =>
        rw [hn] at hr
        obtain rfl : n = 3 := by simpa using hn
        cases hr
        refine ⟨en (by kernel_rfl), (f134s h a b c d e g k).mono ?_⟩
        rintro e h' ⟨rfl, rfl⟩
        exact ⟨rfl, rfl⟩
    · cases hr
/-- the one or the other -/
def prOr (p q : Prim) : Prim := fun f args get nx => match p f args get nx with | some r => some r | none => q f args get nx
theorem prOr_ok {P : Program} {p q : Prim} (hp : PrimOK P p) (hq : PrimOK P q) : PrimOK P (prOr p q) := by
  intro f args h v e hr
  unfold prOr at hr
  split at hr
  · rename_i r hr2
    cases hr
    exact hp f args h v e hr2
  · exact hq f args h v e hr
def pr2 : Prim := prOr pr1 pr134
theorem pr2ok : PrimOK Tryz.prog pr2 := prOr_ok pr1ok pr134ok
end Go.Ab
namespace Go.Ab
open Go.Proofs
def cellsB (get : Nat → Option AObj) (i : Nat) (c : List Value) (e : Nat) : Bool :=
  match get i with
  | some (.cells c' true e') => veqL c c' && Nat.beq e e'
  | _ => false
theorem cellsB_spec {get : Nat → Option AObj} {i : Nat} {c : List Value} {e : Nat} (h : cellsB get i c e = true) : get i = some (.cells c true e) := by
  unfold cellsB at h
  split at h
  · rename_i c' e' hg
    simp only [Bool.and_eq_true, Nat.beq_eq] at h
    rw [hg, veqL_spec h.1, h.2]
  · cases h
def cellsE (get : Nat → Option AObj) (i : Nat) (c : List Value) : Bool :=
  match get i with
  | some (.cells c' true _) => veqL c c'
  | _ => false
theorem cellsE_spec {get : Nat → Option AObj} {i : Nat} {c : List Value} (h : cellsE get i c = true) : ∃ e, get i = some (.cells c true e) := by
  unfold cellsE at h
  split at h
  · rename_i c' e' hg
    exact ⟨e', by rw [hg, veqL_spec h]⟩
  · cases h
def isB (get : Nat → Option AObj) (i : Nat) : Bool := match get i with | some _ => true | none => false
theorem isB_spec {get : Nat → Option AObj} {i : Nat} (h : isB get i = true) : get i ≠ none := by
  unfold isB at h
  split at h
  · rename_i o e; rw [e]; simp
  · cases h
def c0 : List Value := [.slice (some ⟨4, 0, none⟩) 16 16]
def c4 : List Value := i64L [0,1,1,2,1,2,2,3,1,2,2,3,2,3,3,4]
def c2 : List Value := u8L [128,191,160,191,128,159,144,191,128,143,0,0,0,0,0,0,0,0,0,0,0,0,0,0,0,0,0,0,0,0,0,0]
/-- whether a heap holds that of the globals -/
def holdsB (get : Nat → Option AObj) : Bool := cellsB get 0 c0 22 && (cellsB get 2 c2 264 && (cellsE get 4 c4 && (isB get 1 && isB get 3)))
theorem hp0_get (t i : Nat) : (hp0 t).get i = if i = 3 then some .dead else if i = 1 then some .dead else if i = 2 then some (.cells c2 true 264) else if i = 4 then some (.cells c4 true t) else if i = 0 then some (.cells c0 true 22) else none := by
  unfold hp0
  rw [Tr.get_set _ _ _ _ _ (by decide), Tr.get_set _ _ _ _ _ (by decide), Tr.get_set _ _ _ _ _ (by decide), Tr.get_set _ _ _ _ _ (by decide), Tr.get_set _ _ _ _ _ (by decide)]
  rfl
theorem holdsB_spec {h : Hp} (hb : holdsB h.get = true) : ∃ t, Holds h (hpOf (hp0 t) 5) := by
  simp only [holdsB, Bool.and_eq_true] at hb
  obtain ⟨a, b, c, d, e⟩ := hb
  have a := cellsB_spec a
  have b := cellsB_spec b
  obtain ⟨t, c⟩ := cellsE_spec c
  have d := isB_spec d
  have e := isB_spec e
  refine ⟨t, ?_⟩
  intro i o hi
  have hi : (hp0 t).get i = some o := hi
  rw [hp0_get] at hi
  split at hi
  · rename_i q; subst q; exact ⟨e, .inl (by cases hi; rfl)⟩
  split at hi
  · rename_i q; subst q; exact ⟨d, .inl (by cases hi; rfl)⟩
  split at hi
  · rename_i q; subst q; cases hi; exact ⟨by rw [b]; simp, .inr b⟩
  split at hi
  · rename_i q; subst q; cases hi; exact ⟨by rw [c]; simp, .inr c⟩
  split at hi
  · rename_i q; subst q; cases hi; exact ⟨by rw [a]; simp, .inr a⟩
  · cases hi
theorem i64L_flat : ∀ (l : List Int) (j : Nat) (v : Value), (i64L l)[j]? = some v → noAddr v = true
  | [], j, v, h => by simp [i64L] at h
  | n :: l, 0, v, h => by simp only [i64L, List.getElem?_cons_zero, Option.some.injEq] at h; subst h; rfl
  | n :: l, j + 1, v, h => i64L_flat l j v (by simpa [i64L] using h)
theorem u8L_flat : ∀ (l : List Int) (j : Nat) (v : Value), (u8L l)[j]? = some v → noAddr v = true
  | [], j, v, h => by simp [u8L] at h
  | n :: l, 0, v, h => by simp only [u8L, List.getElem?_cons_zero, Option.some.injEq] at h; subst h; rfl
  | n :: l, j + 1, v, h => u8L_flat l j v (by simpa [u8L] using h)
theorem base0 (t : Nat) : Base Tryz.prog (hpOf (hp0 t) 5) where
  lt := fun i hi => by
    show i < 5
    have hi : (hp0 t).get i ≠ none := hi
    rw [hp0_get] at hi
    split at hi; omega
    split at hi; omega
    split at hi; omega
    split at hi; omega
    split at hi; omega
    exact absurd rfl hi
  ro := fun i o hi => by
    have hi : (hp0 t).get i = some o := hi
    rw [hp0_get] at hi
    split at hi
    · cases hi; exact .inl rfl
    split at hi
    · cases hi; exact .inl rfl
    split at hi
    · cases hi; exact .inr ⟨_, _, rfl, fun j v hj => .inl (u8L_flat _ j v hj)⟩
    split at hi
    · cases hi; exact .inr ⟨_, _, rfl, fun j v hj => .inl (i64L_flat _ j v hj)⟩
    split at hi
    · cases hi
      refine .inr ⟨_, _, rfl, fun j v hj => ?_⟩
      cases j with
      | zero =>
        simp only [c0, List.getElem?_cons_zero, Option.some.injEq] at hj
        subst hj
        exact .inr ⟨_, _, _, rfl, by show (hp0 t).get 4 ≠ none; rw [hp0_get]; simp⟩
      | succ j => simp [c0] at hj
    · cases hi
  glob := fun g hg => by
    show (hp0 t).get g ≠ none
    have hg : g < 4 := hg
    rw [hp0_get]
    split; simp
    split; simp
    split; simp
    split; simp
    split; simp
    omega
/-- examples that are known -/
def prW (ks : List Nat) : Prim := fun f args get _ => bif memN f ks then (match args with | [] => bif holdsB get then some (.bool true, .keep) else none | _ => none) else none
def Works (ks : List Nat) : Prop := ∀ k, memN k ks = true → Enters Tryz.prog k ∧ ∀ t, ACalls Tryz.prog k [] (fun e _ => e = .ret (.bool true)) (hpOf (hp0 t) 5)
theorem Works.nil : Works [] := fun _ h => by cases h
theorem Works.cons {k : Nat} {ks : List Nat} (he : Enters Tryz.prog k) (p : ∀ t, ACalls Tryz.prog k [] (fun e _ => e = .ret (.bool true)) (hpOf (hp0 t) 5)) (w : Works ks) : Works (k :: ks) := fun j hj => by
  unfold memN at hj
  cases hk : Nat.beq k j with
  | true => obtain rfl := Nat.eq_of_beq_eq_true hk; exact ⟨he, p⟩
  | false =>
    rw [hk] at hj
    exact w j hj
theorem prW_ok {ks : List Nat} (w : Works ks) : PrimOK Tryz.prog (prW ks) := by
  intro f args h v e hr
  unfold prW at hr
  cases hf : memN f ks with
  | false => rw [hf] at hr; cases hr
  | true =>
    rw [hf] at hr
    simp only [cond_true] at hr
    split at hr
    · cases hb : holdsB h.get with
      | false => rw [hb] at hr; cases hr
      | true =>
        rw [hb] at hr
        cases hr
        obtain ⟨he, p⟩ := w f hf
        obtain ⟨t, hh⟩ := holdsB_spec hb
        exact ⟨he, (lift (base0 t) rfl rfl (p t) hh).mono fun e h' ⟨a, b⟩ => ⟨a, b⟩⟩
    · cases hr
end Go.Ab
