/- A part of the proof of a law over a given program: Rt4, W3, W58, W60, T5. -/
import Derived.Test.YtckgcmgnpblnaaaGreatDoorT16
import Derived.Test.YtckgcmgnpblnaaaGreatDoorT18
import Derived.Test.YtckgcmgnpblnaaaGreatDoorT22
import Derived.Test.YtckgcmgnpblnaaaGreatDoorT25
set_option linter.unusedVariables false
set_option linter.unusedSimpArgs false
namespace Go.Ab
open Go.Proofs
set_option maxRecDepth 10000
theorem val_calls {t : Nat} {pr : Prim} {orc : Orc} (hp : PrimOK Tryz.prog pr) (ho : OrcOK Tryz.prog orc) {f : Nat} {args : List Value} {x : Value} (h : evCall (eeOf Tryz.prog 4 mts pr orc) 1000000 f args (hp0 t) 5 (fun v _ _ => veq v x) no = true) : ACalls Tryz.prog f args (fun e _ => e = .ret x) (hpOf (hp0 t) 5) := by
  refine ((sound gl mtok hp ho mo 1000000).call f args (hp0 t) 5 _ no h).mono ?_
  rintro e h' ⟨hp, nx, _, q⟩
  cases e with
  | ret v =>
    simp only at q
    rw [veq_spec q]
  | panic v => obtain ⟨tm, q⟩ := q; cases q
abbrev sabab : ByteArray := ⟨#[97, 98, 97, 98]⟩
theorem chk0 (t : Nat) : ACalls Tryz.prog 103 [.string sabab] (fun e _ => e = .ret (.int .i64 0)) (hpOf (hp0 t) 5) := val_calls pr2ok orc0ok (by kernel_rfl)
theorem hpre1 (t : Nat) : ACalls Tryz.prog 150 [.string sabab, .string (sabab.extract 1 4)] (fun e _ => e = .ret (.bool false)) (hpOf (hp0 t) 5) := val_calls pr2ok orc0ok (by kernel_rfl)
theorem hpre2 (t : Nat) : ACalls Tryz.prog 150 [.string sabab, .string (sabab.extract 2 4)] (fun e _ => e = .ret (.bool true)) (hpOf (hp0 t) 5) := val_calls pr2ok orc0ok (by kernel_rfl)
theorem chk {t : Nat} {h : Hp} (hh : Holds h (hpOf (hp0 t) 5)) : ACalls Tryz.prog 103 [.string sabab] (fun e h' => e = .ret (.int .i64 0) ∧ h' = h) h := lift (base0 t) rfl rfl (chk0 t) hh
theorem pre1 {t : Nat} {h : Hp} (hh : Holds h (hpOf (hp0 t) 5)) : ACalls Tryz.prog 150 [.string sabab, .string (sabab.extract 1 4)] (fun e h' => e = .ret (.bool false) ∧ h' = h) h := lift (base0 t) rfl rfl (hpre1 t) hh
theorem pre2 {t : Nat} {h : Hp} (hh : Holds h (hpOf (hp0 t) 5)) : ACalls Tryz.prog 150 [.string sabab, .string (sabab.extract 2 4)] (fun e h' => e = .ret (.bool true) ∧ h' = h) h := lift (base0 t) rfl rfl (hpre2 t) hh
set_option maxHeartbeats 4000000 in
theorem f104s (h : Hp) (s : ByteArray) : ACalls Tryz.prog 104 [.string s] (fun e h' => e = .ret (.func (.func 149) #[] #[.pointer (some ⟨loc h 0, 0, none⟩)]) ∧ h' = Ab.ov h [] [(0, .cells [.string s] false 9)] 1) h := by
  (refine ACalls.bodyB (fn := Tryz.f104) (ng := 4) (N := 4) (res := [.tmp 2]) (by kernel_rfl) rfl rfl rfl (by kernel_rfl) (fun En hs => ?_); simp only [argsL, Nat.reduceAdd])
  clear hs
  ((repeat refine CWp.seq ?_); refine CWp.region ?_)
  repeat (first | refine RL.w good ?_ | refine RL.k ?_)
  refine RL.nil ?_
  (try simp (disch := omega) only [qA])
  ((repeat refine CWp.seq ?_); refine CWp.region ?_)
  repeat (first | refine RL.w good ?_ | refine RL.k ?_)
  refine RL.nil ?_
  (try simp (disch := omega) only [qA])
  (refine CWp.ret ?_; (try simp (disch := omega) only [qA]); refine rtQ ?_; (try simp only [oneV]))
  exact ⟨by trivial, by trivial⟩
/-- what the iterator finds: the loop's record, the string, and the small heap -/
structure ItH (t : Nat) (h : Hp) (r ib k : Nat) (L : Loop) (T : Nat → Value) : Prop where
  hr : r < h.next
  hb : ib < h.next
  gr : h.get r = some (.loop k L T)
  gb : h.get ib = some (.cells [.string sabab] false 9)
  hh : Holds h (hpOf (hp0 t) 5)
attribute [local push_cast] ldN_lowU takeN_one Option.toList_some ov_low
set_option maxHeartbeats 4000000 in
theorem f149s {t : Nat} {h : Hp} {r ib k : Nat} {L : Loop} {T : Nat → Value} {R : AEnd → Hp → Prop} (I : ItH t h r ib k L T) (hst : L.state = .ready) (hpa : L.params = #[14]) (hN : L.tmps.size = 28)
    (q : AWp Tryz.prog 28 L.assign (thenA (fun T' h' => ∃ T2, h'.get r = some (.loop k L T2) ∧ AWp Tryz.prog 28 L.body (roundQ r k L (fun v h' => v = .bool false ∧ R (.ret (.tuple #[])) h')) T' (h'.set r (.loop k { L with state := .busy } T2))) (fun _ _ _ => False)) (putT T (some 14) (.int .i64 2)) h) :
    ACalls Tryz.prog 149 [.func (.yield k) #[] #[], .pointer (some ⟨ib, 0, none⟩)] R h := by
  have hb0 := I.hb
  have hg0 := I.gb
  replace I := Hid.mk I
  replace q := Hid.mk q
  (refine ACalls.bodyB (fn := Tryz.f149) (ng := 4) (N := 21) (res := []) (by kernel_rfl) rfl rfl rfl (by kernel_rfl) (fun En hs => ?_); simp only [argsL, Nat.reduceAdd])
  clear hs
  ((repeat refine CWp.seq ?_); refine CWp.region ?_)
  repeat (first | refine RL.w good ?_ | refine RL.k ?_)
  refine RL.nil ?_
  (try simp (disch := omega) only [qA])
  ((repeat refine CWp.seq ?_); refine CWp.block ?_)
  refine CWp.loopR (α := Nat) (fun s => (tl [(3, .int .i64 s), (0, .func (.yield k) #[] #[]), (1, .pointer (some ⟨ib, 0, none⟩))], Ab.ov h [] [] 0)) (fun s => 2 - s) (fun s => s = 1 ∨ s = 2) 1 (.inl rfl) ?_ rfl ?_
  · exact tl_less (by simp [lk])
  · intro s hs
    rcases hs with rfl | rfl
    · ((repeat refine CWp.seq ?_); refine CWp.region ?_)
      repeat (first | refine RL.w good ?_ | refine RL.k ?_)
      refine RL.nil ?_
      (try simp (disch := omega) only [qA])
      ((repeat refine CWp.seq ?_); refine CWp.cnd good ?_ ?_)
      · intro _
        (refine CWp.skip ?_; (try simp (disch := omega) only [qA]))
        (repeat refine CWp.seq ?_)
        refine CWp.block ?_
        ((repeat refine CWp.seq ?_); refine CWp.drawI good (fun g => memN g []) [(0, true), (1, true), (2, true), (3, true), (4, false), (5, true), (6, true), (7, true), (8, false), (9, true), (10, true)] (by kernel_rfl) (fun _ _ _ q => q) ?_)
        repeat (first | refine PL.w ?_ | refine PL.wk ?_ | refine PL.ew ?_ | refine PL.ewk ?_)
        (apply PL.efcall; (· (first | exact rfl | (simp only [push_cast, reduceIte, Nat.reduceEqDiff, *]; done) | (simp only [push_cast, reduceIte, Nat.reduceEqDiff, *]; exact rfl))); (· (exact rfl)); (· (exact rfl)); (· (simp (disch := omega) only [push_cast, reduceIte, Nat.reduceEqDiff, beq_self_eq_true, bne_self_eq_false, Int.reduceBEq, Int.reduceBNe, Int.reduceLT, Int.reduceLE, Nat.reduceAdd, Nat.reduceMul, Nat.reduceSub, Int.reduceToNat, Nat.reducePow, Int.reducePow, *] <;> exact rfl)); (· (exact en (by kernel_rfl))); (· (simp (disch := omega) only [push_cast, reduceIte, Nat.reduceEqDiff, beq_self_eq_true, bne_self_eq_false, Int.reduceBEq, Int.reduceBNe, Int.reduceLT, Int.reduceLE, Nat.reduceAdd, Nat.reduceMul, Nat.reduceSub, Int.reduceToNat, Nat.reducePow, Int.reducePow, *] <;> exact rfl)))
        · rw [ov_self En.lt]; exact pre1 I.out.hh
        · rintro v h' ⟨e, rfl⟩
          cases e
          refine ⟨by (· ((repeat (first | exact ReF.nil | refine ReF.dep (by exact rfl) ?_ | (apply ReF.op; (· (simp (disch := omega) only [push_cast, reduceIte, Nat.reduceEqDiff, beq_self_eq_true, bne_self_eq_false, Int.reduceBEq, Int.reduceBNe, Int.reduceLT, Int.reduceLE, Nat.reduceAdd, Nat.reduceMul, Nat.reduceSub, Int.reduceToNat, Nat.reducePow, Int.reducePow, *] <;> exact rfl))))))), ?_⟩
          repeat (first | refine PL.w ?_ | refine PL.wk ?_ | refine PL.ew ?_ | refine PL.ewk ?_)
          refine PL.nil ?_
          (try simp (disch := omega) only [qA])
          ((repeat refine CWp.seq ?_); refine CWp.cnd good ?_ ?_)
          · intro hc; cases hc
          · intro _
            (refine CWp.skip ?_; (try simp (disch := omega) only [qA]))
            ((repeat refine CWp.seq ?_); refine CWp.region ?_)
            repeat (first | refine RL.w good ?_ | refine RL.k ?_)
            refine RL.nil ?_
            (try simp (disch := omega) only [qA])
            refine ⟨2, .inr rfl, by (try dsimp only); omega, tl_less (by simp [lk]), (ov_self En.lt).symm⟩
        · rintro v h' ⟨e, _⟩; cases e
      · intro hc; cases hc
    · ((repeat refine CWp.seq ?_); refine CWp.region ?_)
      repeat (first | refine RL.w good ?_ | refine RL.k ?_)
      refine RL.nil ?_
      (try simp (disch := omega) only [qA])
      ((repeat refine CWp.seq ?_); refine CWp.cnd good ?_ ?_)
      · intro _
        (refine CWp.skip ?_; (try simp (disch := omega) only [qA]))
        (repeat refine CWp.seq ?_)
        refine CWp.block ?_
        ((repeat refine CWp.seq ?_); refine CWp.drawI good (fun g => memN g []) [(0, true), (1, true), (2, true), (3, true), (4, false), (5, true), (6, true), (7, true), (8, false), (9, true), (10, true)] (by kernel_rfl) (fun _ _ _ q => q) ?_)
        repeat (first | refine PL.w ?_ | refine PL.wk ?_ | refine PL.ew ?_ | refine PL.ewk ?_)
        (apply PL.efcall; (· (first | exact rfl | (simp only [push_cast, reduceIte, Nat.reduceEqDiff, *]; done) | (simp only [push_cast, reduceIte, Nat.reduceEqDiff, *]; exact rfl))); (· (exact rfl)); (· (exact rfl)); (· (simp (disch := omega) only [push_cast, reduceIte, Nat.reduceEqDiff, beq_self_eq_true, bne_self_eq_false, Int.reduceBEq, Int.reduceBNe, Int.reduceLT, Int.reduceLE, Nat.reduceAdd, Nat.reduceMul, Nat.reduceSub, Int.reduceToNat, Nat.reducePow, Int.reducePow, *] <;> exact rfl)); (· (exact en (by kernel_rfl))); (· (simp (disch := omega) only [push_cast, reduceIte, Nat.reduceEqDiff, beq_self_eq_true, bne_self_eq_false, Int.reduceBEq, Int.reduceBNe, Int.reduceLT, Int.reduceLE, Nat.reduceAdd, Nat.reduceMul, Nat.reduceSub, Int.reduceToNat, Nat.reducePow, Int.reducePow, *] <;> exact rfl)))
        · rw [ov_self En.lt]; exact pre2 I.out.hh
        · rintro v h' ⟨e, rfl⟩
          cases e
          refine ⟨by (· ((repeat (first | exact ReF.nil | refine ReF.dep (by exact rfl) ?_ | (apply ReF.op; (· (simp (disch := omega) only [push_cast, reduceIte, Nat.reduceEqDiff, beq_self_eq_true, bne_self_eq_false, Int.reduceBEq, Int.reduceBNe, Int.reduceLT, Int.reduceLE, Nat.reduceAdd, Nat.reduceMul, Nat.reduceSub, Int.reduceToNat, Nat.reducePow, Int.reducePow, *] <;> exact rfl))))))), ?_⟩
          repeat (first | refine PL.w ?_ | refine PL.wk ?_ | refine PL.ew ?_ | refine PL.ewk ?_)
          refine PL.raw (by first | exact rfl | (simp only [push_cast, reduceIte, Nat.reduceEqDiff, *]; done) | (simp only [push_cast, reduceIte, Nat.reduceEqDiff, *]; exact rfl)) (AOne.yield rfl rfl rfl (by simp (disch := omega) only [push_cast, reduceIte, Nat.reduceEqDiff, beq_self_eq_true, bne_self_eq_false, Int.reduceBEq, Int.reduceBNe, Int.reduceLT, Int.reduceLE, Nat.reduceAdd, Nat.reduceMul, Nat.reduceSub, Int.reduceToNat, Nat.reducePow, Int.reducePow, *] <;> exact rfl) I.out.gr hst hpa hN (by decide) ?_)
          refine yield_mono ?_ q.out
          rintro v h2 ⟨rfl, hR⟩
          refine ⟨by (· ((repeat (first | exact ReF.nil | refine ReF.dep (by exact rfl) ?_ | (apply ReF.op; (· (simp (disch := omega) only [push_cast, reduceIte, Nat.reduceEqDiff, beq_self_eq_true, bne_self_eq_false, Int.reduceBEq, Int.reduceBNe, Int.reduceLT, Int.reduceLE, Nat.reduceAdd, Nat.reduceMul, Nat.reduceSub, Int.reduceToNat, Nat.reducePow, Int.reducePow, *] <;> exact rfl))))))), ?_⟩
          (try dsimp only)
          simp only [putT_tl]
          repeat (first | refine PL.w ?_ | refine PL.wk ?_ | refine PL.ew ?_ | refine PL.ewk ?_)
          refine PL.nil ?_
          (try simp (disch := omega) only [qA])
          ((repeat refine CWp.seq ?_); refine CWp.cnd good ?_ ?_)
          · intro _
            (refine CWp.ret ?_; (try simp (disch := omega) only [qA]); refine rtQ ?_; (try simp only [oneV]))
            exact hR
          · intro hc; cases hc
        · rintro v h' ⟨e, _⟩; cases e
      · intro hc; cases hc
theorem holds_ov {h b : Hp} (En : Entry Tryz.prog h) (hh : Holds h b) {U' L : List (Nat × AObj)} {k : Nat} (hU : ∀ p ∈ U', b.get p.1 = none) : Holds (Ab.ov h U' L k) b := fun i o hi => by
  obtain ⟨h1, h2⟩ := hh i o hi
  have hlt := En.lt i h1
  rw [ov_low hlt]
  cases hl : lk U' i with
  | none => exact ⟨h1, h2⟩
  | some o' => have := hU _ (lk_mem hl); simp only at this; rw [hi] at this; cases this
theorem holds_new {h b : Hp} (En : Entry Tryz.prog h) (hh : Holds h b) (o : AObj) : Holds (h.new h.next o) b := fun i o' hi => by
  obtain ⟨h1, h2⟩ := hh i o' hi
  have hlt := En.lt i h1
  rw [Hp.get_new, if_neg (by omega)]
  exact ⟨h1, h2⟩
/-- what is assigned in a round, and the round -/
def rfA (fn : Func) : Code :=
  match fn.body with
  | some (.seq _ (.seq _ (.seq (.seq _ (.block _ (.rangeFunc _ _ a _))) _))) => a
  | _ => .skip
def rfB (fn : Func) : Code :=
  match fn.body with
  | some (.seq _ (.seq _ (.seq (.seq _ (.block _ (.rangeFunc _ _ _ b))) _))) => b
  | _ => .skip
/-- the loop's temporaries -/
def rootT (ib i0 i1 i2 i3 : Nat) : List (Nat × Value) := [(13, .func (.func 149) #[] #[.pointer (some ⟨ib, 0, none⟩)]), (1, .pointer (some ⟨i0, 0, none⟩)), (2, .pointer (some ⟨i1, 0, none⟩)), (3, .pointer (some ⟨i2, 0, none⟩)), (4, .pointer (some ⟨i3, 0, none⟩))]
set_option maxHeartbeats 4000000 in
theorem rootBody {t : Nat} {h : Hp} {r ib i0 i1 i2 i3 k : Nat} {L : Loop} {Q : MPost} (l1 : L.state = .ready) (l3 : L.params = #[14]) (l4 : L.assign = rfA Tryz.f78) (l5 : L.body = rfB Tryz.f78) (l6 : L.tmps.size = 28)
    (n0 : i0 < h.next) (n1 : i1 < h.next) (n2 : i2 < h.next) (n3 : i3 < h.next) (nb : ib < h.next) (nr : r < h.next)
    (g0 : h.get i0 = some (.cells [.string sabab] false 9)) (g1 : h.get i1 = some (.cells [.string ⟨#[]⟩] false 9)) (g2 : h.get i2 = some (.cells [.int .i64 0] false 3)) (g3 : h.get i3 = some (.cells [.int .i64 0] false 32))
    (gb : h.get ib = some (.cells [.string sabab] false 9)) (gr : h.get r = some (.loop k L (tl (rootT ib i0 i1 i2 i3)))) (r0 : ¬ r = i0) (r1 : ¬ r = i1) (r2 : ¬ r = i2) (r3 : ¬ r = i3) (d01 : ¬ i0 = i1) (d02 : ¬ i0 = i2) (d03 : ¬ i0 = i3) (d12 : ¬ i1 = i2) (d13 : ¬ i1 = i3) (d23 : ¬ i2 = i3) (hd : Holds h (hpOf (hp0 t) 5))
    (hQ : ∀ h', h'.get i1 = some (.cells [.string (sabab.extract 0 2)] false 9) → h'.get i2 = some (.cells [.int .i64 2] false 3) → h'.get i3 = some (.cells [.int .i64 0] false 32) → Q .ret (tl (rootT ib i0 i1 i2 i3)) h' true) :
    ACalls Tryz.prog 149 [.func (.yield k) #[] #[], .pointer (some ⟨ib, 0, none⟩)] (fun e h' => ∃ v, e = .ret v ∧ rangeQ 28 r k L Q h') h := by
  refine f149s (r := r) (ib := ib) (T := tl (rootT ib i0 i1 i2 i3)) ⟨nr, nb, gr, gb, hd⟩ l1 l3 l6 ?_
  replace gr := Hid.mk gr
  replace hQ := Hid.mk hQ
  obtain ⟨LB, hLB⟩ : ∃ LB : Loop, LB = { L with state := .busy } := ⟨_, rfl⟩
  rw [← hLB]
  replace hLB := Hid.mk hLB
  rw [l4]
  refine AWp.weaken (T' := tl ((14, .int .i64 2) :: (rootT ib i0 i1 i2 i3))) (fun t => .inl (by rw [putT_tl])) ?_
  unfold rootT at *
  refine AWp.walk (ng := 4) (by kernel_rfl) fun En3 => ?_
  ((repeat refine CWp.seq ?_); refine CWp.region ?_)
  repeat (first | refine RL.w good ?_ | refine RL.k ?_)
  refine RL.nil ?_
  refine ⟨_, by rw [ov_low0 nr]; exact gr.out, ?_⟩
  rw [ov_self En3.lt, l5]
  generalize hh4 : h.set r _ = h4
  have hlow : ∀ i, ¬ r = i → h4.get i = h.get i := fun i hi => by rw [← hh4, Hp.get_set, if_neg (fun e => hi e.symm)]
  have hnx : h4.next = h.next := by rw [← hh4]; rfl
  have gr4 := show h4.get r = some (.loop k _ _) by rw [← hh4, Hp.get_set, if_pos rfl]
  rw [← hlow _ r0] at g0
  rw [← hlow _ r1] at g1
  rw [← hlow _ r2] at g2
  rw [← hlow _ r3] at g3
  rw [← hnx] at n0 n1 n2 n3 nr
  clear hlow hnx hh4 gr gb nb hd En3
  replace gr4 := Hid.mk gr4
  have d10 : ¬ i1 = i0 := fun e => d01 e.symm
  have d20 : ¬ i2 = i0 := fun e => d02 e.symm
  have d30 : ¬ i3 = i0 := fun e => d03 e.symm
  have d21 : ¬ i2 = i1 := fun e => d12 e.symm
  have d31 : ¬ i3 = i1 := fun e => d13 e.symm
  have d32 : ¬ i3 = i2 := fun e => d23 e.symm
  refine AWp.walk (ng := 4) (by kernel_rfl) fun En4 => ?_
  ((repeat refine CWp.seq ?_); refine CWp.block ?_)
  ((repeat refine CWp.seq ?_); refine CWp.region ?_)
  repeat (first | refine RL.w good ?_ | refine RL.k ?_)
  refine RL.nil ?_
  (try simp (disch := omega) only [qA])
  ((repeat refine CWp.seq ?_); refine CWp.cnd good ?_ ?_)
  · intro _
    ((repeat refine CWp.seq ?_); refine CWp.drawI good (fun g => memN g []) [(0, true), (1, true), (2, true), (3, true), (4, true), (5, true), (6, true), (7, false), (8, false), (9, false)] (by kernel_rfl) (fun _ _ _ q => q) ?_)
    repeat (first | refine PL.w ?_ | refine PL.wk ?_ | refine PL.ew ?_ | refine PL.ewk ?_)
    refine PL.nil ?_
    (try simp (disch := omega) only [qA])
    refine CWp.ret ?_
    (try simp (disch := omega) only [qA])
    have gr5 := gr4.out
    rw [hLB.out] at gr5
    clear gr4
    rw [if_neg d12]
    have s1 : ¬ i1 = r := fun e => r1 e.symm
    have s2 : ¬ i2 = r := fun e => r2 e.symm
    have s3 : ¬ i3 = r := fun e => r3 e.symm
    refine ⟨_, by rw [ov_low nr]; simp only [upd, lk, if_neg d13, if_neg d23, if_neg s1, if_neg s2, if_neg s3]; exact gr5, rfl, _, rfl, { L with state := .done, pending := some .ret }, _, by rw [Hp.get_set, if_pos rfl], by simp, rfl, ?_⟩
    show Q .ret _ _ true
    refine hQ.out _ ?_ ?_ ?_
    · rw [Hp.get_set, if_neg (fun e => r1 e.symm), Hp.get_set, if_neg (fun e => r1 e.symm), ov_low n1]
      simp [upd, lk, d12, d13, d23]
    · rw [Hp.get_set, if_neg (fun e => r2 e.symm), Hp.get_set, if_neg (fun e => r2 e.symm), ov_low n2]
      simp [upd, lk, d12, d13, d23]
      try decide
    · rw [Hp.get_set, if_neg (fun e => r3 e.symm), Hp.get_set, if_neg (fun e => r3 e.symm), ov_low n3]
      simp [upd, lk, d12, d13, d23]
  · intro hc
    exact absurd hc (by decide)
set_option maxHeartbeats 4000000 in
/-- repeat.Root of "abab" -/
theorem root0 {t : Nat} : ACalls Tryz.prog 78 [.string sabab] (fun e _ => e = .ret (.tuple #[.string (sabab.extract 0 2), .int .i64 2, .int .i64 0])) (hpOf (hp0 t) 5) := by
  refine ACalls.entry fun En hs => ?_
  refine ACalls.marks (E := tiOf Tryz.prog) (fn := Tryz.f78) (fun _ _ h => h) (by kernel_rfl) rfl ?_
  rw [show max [Value.string sabab].length Tryz.f78.ntmps = 28 from rfl]
  refine AWpM.weaken (argT_tl _) ?_
  simp only [argsL]
  clear hs
  obtain ⟨h, hh⟩ : ∃ h, h = hpOf (hp0 t) 5 := ⟨_, rfl⟩
  have hh0 : Holds h (hpOf (hp0 t) 5) := by subst hh; exact fun i o hi => ⟨by rw [hi]; simp, .inr hi⟩
  rw [← hh] at En ⊢
  clear hh
  refine AWpM.seq (AWpM.of (Q' := fun e T h' => e = .normal ∧ T = tl [(4, .pointer (some ⟨loc h 3, 0, none⟩)), (3, .pointer (some ⟨loc h 2, 0, none⟩)), (2, .pointer (some ⟨loc h 1, 0, none⟩)), (1, .pointer (some ⟨loc h 0, 0, none⟩)), (0, .string sabab)] ∧ h' = Ab.ov h [] [(3, .cells [.int .i64 0] false 32), (2, .cells [.int .i64 0] false 3), (1, .cells [.string ⟨#[]⟩] false 9), (0, .cells [.string sabab] false 9)] 4) ?_ ?_)
  · refine AWp.walk (ng := 4) (by kernel_rfl) fun _ => ?_
    ((repeat refine CWp.seq ?_); refine CWp.region ?_)
    repeat (first | refine RL.w good ?_ | refine RL.k ?_)
    refine RL.nil ?_
    exact ⟨rfl, rfl, rfl⟩
  · rintro e T h' ⟨rfl, rfl, rfl⟩
    dsimp only
    obtain ⟨h1, hh1⟩ : ∃ h1, h1 = Ab.ov h [] [(3, .cells [.int .i64 0] false 32), (2, .cells [.int .i64 0] false 3), (1, .cells [.string ⟨#[]⟩] false 9), (0, .cells [.string sabab] false 9)] 4 := ⟨_, rfl⟩
    rw [← hh1]
    have n0 : loc h 0 < h1.next := by subst hh1; rw [ov_next, loc_lt]; omega
    have n1 : loc h 1 < h1.next := by subst hh1; rw [ov_next, loc_lt]; omega
    have n2 : loc h 2 < h1.next := by subst hh1; rw [ov_next, loc_lt]; omega
    have n3 : loc h 3 < h1.next := by subst hh1; rw [ov_next, loc_lt]; omega
    have g0 : h1.get (loc h 0) = some (.cells [.string sabab] false 9) := by subst hh1; rw [ov_loc]; rfl
    have g1 : h1.get (loc h 1) = some (.cells [.string ⟨#[]⟩] false 9) := by subst hh1; rw [ov_loc]; rfl
    have g2 : h1.get (loc h 2) = some (.cells [.int .i64 0] false 3) := by subst hh1; rw [ov_loc]; rfl
    have g3 : h1.get (loc h 3) = some (.cells [.int .i64 0] false 32) := by subst hh1; rw [ov_loc]; rfl
    have hd1 : Holds h1 (hpOf (hp0 t) 5) := by subst hh1; exact holds_ov En hh0 (by simp)
    have d01 : ¬ loc h 0 = loc h 1 := by rw [loc_inj]; omega
    have d02 : ¬ loc h 0 = loc h 2 := by rw [loc_inj]; omega
    have d03 : ¬ loc h 0 = loc h 3 := by rw [loc_inj]; omega
    have d12 : ¬ loc h 1 = loc h 2 := by rw [loc_inj]; omega
    have d13 : ¬ loc h 1 = loc h 3 := by rw [loc_inj]; omega
    have d23 : ¬ loc h 2 = loc h 3 := by rw [loc_inj]; omega
    clear hh1 hh0
    generalize loc h 0 = i0 at *
    generalize loc h 1 = i1 at *
    generalize loc h 2 = i2 at *
    generalize loc h 3 = i3 at *
    replace hd1 := Hid.mk hd1
    refine AWpM.seq (AWpM.of (Q' := fun e T h' => e = .normal ∧ TLess (tl [(1, .pointer (some ⟨i0, 0, none⟩)), (2, .pointer (some ⟨i1, 0, none⟩)), (3, .pointer (some ⟨i2, 0, none⟩)), (4, .pointer (some ⟨i3, 0, none⟩))]) T ∧ h' = h1) ?_ ?_)
    · refine AWp.walk (ng := 4) (by kernel_rfl) fun En1 => ?_
      ((repeat refine CWp.seq ?_); refine CWp.region ?_)
      repeat (first | refine RL.w good ?_ | refine RL.k ?_)
      (refine' RL.c good ?_ ?_ ?_; rotate_left)
      · rw [ov_self En1.lt]; exact chk hd1.out
      · rintro v h' ⟨e, rfl⟩
        cases e
        repeat (first | refine RL.w good ?_ | refine RL.k ?_)
        refine RL.nil ?_
        (try simp (disch := omega) only [qA])
        ((repeat refine CWp.seq ?_); refine CWp.region ?_)
        repeat (first | refine RL.w good ?_ | refine RL.k ?_)
        refine RL.nil ?_
        (try simp (disch := omega) only [qA])
        ((repeat refine CWp.seq ?_); refine CWp.cnd good ?_ ?_)
        · intro hc; cases hc
        · intro _
          (refine CWp.skip ?_; (try simp (disch := omega) only [qA]))
          exact ⟨by trivial, tl_less (by simp [lk]), by trivial⟩
      · rintro v h' ⟨e, _⟩; cases e
    · rintro e T h' ⟨rfl, hT, rfl⟩
      dsimp only
      refine AWpM.weaken hT ?_
      refine AWpM.entry fun En0 => ?_
      refine AWpM.seq ?_
      refine AWpM.seq (AWpM.of (Q' := fun e T h2 => e = .normal ∧ TLess (tl [(13, .func (.func 149) #[] #[.pointer (some ⟨loc h' 0, 0, none⟩)]), (1, .pointer (some ⟨i0, 0, none⟩)), (2, .pointer (some ⟨i1, 0, none⟩)), (3, .pointer (some ⟨i2, 0, none⟩)), (4, .pointer (some ⟨i3, 0, none⟩))]) T ∧ h2 = Ab.ov h' [] [(0, .cells [.string sabab] false 9)] 1) ?_ ?_)
      · refine AWp.walk (ng := 4) (by kernel_rfl) fun En1 => ?_
        ((repeat refine CWp.seq ?_); refine CWp.region ?_)
        repeat (first | refine RL.w good ?_ | refine RL.k ?_)
        (refine' RL.c good ?_ ?_ ?_; rotate_left)
        · rw [ov_self En1.lt]; exact f104s _ _
        · rintro v h2 ⟨e, rfl⟩
          cases e
          simp only [putT_tl]
          refine RL.nil ?_
          exact ⟨by trivial, tl_less (by simp [lk]), by trivial⟩
        · rintro v h2 ⟨e, _⟩; cases e
      · rintro e T h2 ⟨rfl, hT2, rfl⟩
        dsimp only
        refine AWpM.weaken hT2 ?_
        refine AWpM.entry fun En2 => ?_
        have hhd := hd1.out
        obtain ⟨h2, hh2⟩ : ∃ h2, h2 = Ab.ov h' [] [(0, .cells [.string sabab] false 9)] 1 := ⟨_, rfl⟩
        rw [← hh2] at En2 ⊢
        have nb : loc h' 0 < h2.next := by subst hh2; rw [ov_next, loc_lt]; omega
        have gb : h2.get (loc h' 0) = some (.cells [.string sabab] false 9) := by subst hh2; rw [ov_loc]; rfl
        have hnx : h'.next ≤ h2.next := by subst hh2; rw [ov_next]; unfold loc; omega
        have hlow : ∀ i, i < h'.next → h2.get i = h'.get i := by subst hh2; exact fun i hi => ov_low0 hi
        have hd2 : Holds h2 (hpOf (hp0 t) 5) := by subst hh2; exact holds_ov En0 hhd (by simp)
        rw [← hlow _ n0] at g0
        rw [← hlow _ n1] at g1
        rw [← hlow _ n2] at g2
        rw [← hlow _ n3] at g3
        replace n0 := Nat.lt_of_lt_of_le n0 hnx
        replace n1 := Nat.lt_of_lt_of_le n1 hnx
        replace n2 := Nat.lt_of_lt_of_le n2 hnx
        replace n3 := Nat.lt_of_lt_of_le n3 hnx
        clear hd1 hhd hlow hnx hh2 hT hT2
        generalize loc h' 0 = ib at *
        clear En0
        clear h'
        refine AWpM.block (AWpM.rangeFunc (ng := 4) good.ng rfl rfl (en (by kernel_rfl)) ?_)
        intro k L l1 l2 l3 l4 l5 l6
        have hnx3 : ∀ i, i < h2.next → i < (h2.new h2.next (.loop k L (tl (rootT ib i0 i1 i2 i3)))).next := fun i hi => by rw [Hp.next_new]; omega
        have hlow3 : ∀ i, i < h2.next → (h2.new h2.next (.loop k L (tl (rootT ib i0 i1 i2 i3)))).get i = h2.get i := fun i hi => by rw [Hp.get_new, if_neg (by omega)]
        refine rootBody (r := h2.next) (i0 := i0) (i1 := i1) (i2 := i2) (i3 := i3) l1 l3 l4 l5 l6 (hnx3 _ n0) (hnx3 _ n1) (hnx3 _ n2) (hnx3 _ n3) (hnx3 _ nb) (by rw [Hp.next_new]; omega)
          ((hlow3 _ n0).trans g0) ((hlow3 _ n1).trans g1) ((hlow3 _ n2).trans g2) ((hlow3 _ n3).trans g3) ((hlow3 _ nb).trans gb) (by rw [Hp.get_new, if_pos rfl]; rfl) (by omega) (by omega) (by omega) (by omega) d01 d02 d03 d12 d13 d23 (holds_new En2 hd2 _) ?_
        intro h3 k1 k2 k3
        have q1 : ldN h3.get ⟨i1, 0, none⟩ 1 = some [.string (sabab.extract 0 2)] := by unfold ldN; simp only [k1]; rfl
        have q2 : ldN h3.get ⟨i2, 0, none⟩ 1 = some [.int .i64 2] := by unfold ldN; simp only [k2]; rfl
        have q3 : ldN h3.get ⟨i3, 0, none⟩ 1 = some [.int .i64 0] := by unfold ldN; simp only [k3]; rfl
        show ∃ r, resL (tiOf Tryz.prog) (tl (rootT ib i0 i1 i2 i3)) h3.get [.cell 2 9, .cell 3 3, .cell 4 32] = some r ∧ _
        clear l1 l2 l3 l4 l5 l6
        unfold rootT
        refine ⟨[.string (sabab.extract 0 2), .int .i64 2, .int .i64 0], by simp (disch := omega) only [push_cast, reduceIte, Nat.reduceEqDiff, beq_self_eq_true, bne_self_eq_false, Int.reduceBEq, Int.reduceBNe, Int.reduceLT, Int.reduceLE, Nat.reduceAdd, Nat.reduceMul, Nat.reduceSub, Int.reduceToNat, Nat.reducePow, Int.reducePow, *] <;> exact rfl, rfl⟩
end Go.Ab
namespace Go.Ab
open Go.Proofs
/-- repeat.Root of "abab" is known -/
def pr78 : Prim := fun f args get _ => bif Nat.beq f 78 then (match args with | [.string s] => bif bytesEq s sabab then (bif holdsB get then some (.tuple #[.string ⟨#[97, 98]⟩, .int .i64 2, .int .i64 0], .keep) else none) else none | _ => none) else none
theorem ab_eq : sabab.extract 0 2 = ⟨#[97, 98]⟩ := by decide
theorem pr78ok : PrimOK Tryz.prog pr78 := by
  intro f args h v e hr
  unfold pr78 at hr
  cases hf : Nat.beq f 78 with
  | false => rw [hf] at hr; cases hr
  | true =>
    rw [hf] at hr
    simp only [cond_true] at hr
    obtain rfl := Nat.eq_of_beq_eq_true hf
    split at hr
    · rename_i s
      cases hn : bytesEq s sabab with
      | false => rw [hn] at hr; cases hr
      | true =>
        rw [hn] at hr
        simp only [cond_true] at hr
        have hs : Value.string s = .string sabab := veq_spec (by unfold veq; exact hn)
        cases hs
        cases hb : holdsB h.get with
        | false => rw [hb] at hr; cases hr
        | true =>
          rw [hb] at hr
          cases hr
          obtain ⟨t, hh⟩ := holdsB_spec hb
          have r0 := root0 (t := t)
          rw [ab_eq] at r0
          exact ⟨en (by kernel_rfl), (lift (base0 t) rfl rfl r0 hh).mono fun e h' ⟨a, b⟩ => ⟨a, b⟩⟩
    · cases hr
theorem works56 : Works [56, 54, 53] := .cons (en (by kernel_rfl)) w56 (.cons (en (by kernel_rfl)) w54 (.cons (en (by kernel_rfl)) w53 .nil))
def pr3 : Prim := prOr pr78 pr2
theorem pr3ok : PrimOK Tryz.prog pr3 := prOr_ok pr78ok pr2ok
end Go.Ab
namespace Go.Ab
open Go.Proofs
theorem w58 (t : Nat) : ACalls Tryz.prog 58 [] (fun e _ => e = .ret (.bool true)) (hpOf (hp0 t) 5) := yes_calls (prOr_ok (prW_ok works56) pr3ok) orc0ok (by kernel_rfl)
end Go.Ab
namespace Go.Ab
open Go.Proofs
theorem works58 : Works [58, 56, 54, 53] := .cons (en (by kernel_rfl)) w58 works56
theorem w60 (t : Nat) : ACalls Tryz.prog 60 [] (fun e _ => e = .ret (.bool true)) (hpOf (hp0 t) 5) := yes_calls (prOr_ok (prW_ok works58) pr3ok) orc0ok (by kernel_rfl)
theorem works60 : Works [60, 58, 56, 54, 53] := .cons (en (by kernel_rfl)) w60 works58
end Go.Ab
namespace Go.Ab
open Go.Proofs
set_option maxRecDepth 10000
theorem f48s (a b : Int) (h : Hp) : ACalls Tryz.prog 48 [.agg #[.int .i64 a, .int .i64 b]] (fun e h' => e = .ret (.bool (btw 0 a 1000 && btw 0 b 1000)) ∧ h' = h) h := by
  (refine ACalls.bodyB (fn := Tryz.f48) (ng := 4) (N := 11) (res := [.tmp 2]) (by kernel_rfl) rfl rfl rfl (by kernel_rfl) (fun En hs => ?_); simp only [argsL, Nat.reduceAdd])
  clear hs
  ((repeat refine CWp.seq ?_); refine CWp.region ?_)
  repeat (first | refine RL.w good ?_ | refine RL.k ?_)
  refine RL.nil ?_
  ((repeat refine CWp.seq ?_); refine CWp.region ?_)
  repeat (first | refine RL.w good ?_ | refine RL.k ?_)
  (refine' RL.c good ?_ ?_ ?_; rotate_left)
  · exact f41s _ _ _ _
  · rintro v' h' ⟨e, rfl⟩
    cases e
    simp only [push_cast]
    cases hb : btw 0 a 1000
    · repeat (first | refine RL.w good ?_ | refine RL.k ?_)
      refine RL.nil ?_
      (try simp (disch := omega) only [qA])
      (refine CWp.ret ?_; (try simp (disch := omega) only [qA]); refine rtB ?_; (try simp only [oneV]))
      exact EndB.plain En rfl ⟨rfl, rfl⟩
    · repeat (first | refine RL.w good ?_ | refine RL.k ?_)
      (refine' RL.c good ?_ ?_ ?_; rotate_left)
      · exact f41s _ _ _ _
      · rintro v' h' ⟨e, rfl⟩
        cases e
        simp only [push_cast]
        repeat (first | refine RL.w good ?_ | refine RL.k ?_)
        refine RL.nil ?_
        (try simp (disch := omega) only [qA])
        (refine CWp.ret ?_; (try simp (disch := omega) only [qA]); refine rtB ?_; (try simp only [oneV]))
        exact EndB.plain En rfl ⟨rfl, rfl⟩
      · rintro v h' ⟨e, _⟩; cases e
  · rintro v h' ⟨e, _⟩; cases e
/-- numbers of a chain -/
def Small (l : List Int) : Prop := ∀ j, 0 ≤ l.getD j 0 ∧ l.getD j 0 ≤ 46
theorem Small.take {l : List Int} (h : Small l) (n : Nat) : Small (l.take n) := fun j => by
  have := h j
  simp only [List.getD_eq_getElem?_getD, List.getElem?_take] at this ⊢
  split
  · exact this
  · simp
set_option maxHeartbeats 4000000 in
theorem f68s (a b : Int) (v : Value) (l : List Int) (h : Hp) (hv : IsInts h v l) (hpos : 0 < l.length) (hl : l.length ≤ 20) (hs0 : Small l) (ha : 0 ≤ a ∧ a ≤ 1000) (hb : 0 ≤ b ∧ b ≤ 1000) :
    ACalls Tryz.prog 68 [.agg #[.int .i64 a, .int .i64 b], v] (fun e h' => ∃ c, e = .ret (.int .i64 c) ∧ 0 ≤ c ∧ c ≤ 1001 ∧ h' = h) h := by
  have hlen := hv.len
  have hidx := hv.idx
  have hld := hv.ld
  have e1 : ((l.length : Int) - 1).toNat = l.length - 1 := by omega
  have hn := hs0 (l.length - 1)
  obtain ⟨ht1, ht2⟩ := hv.take (b := (l.length : Int) - 1) (by omega) (by omega)
  generalize subV Tryz.prog 22 v none (some (.int .i64 ((l.length : Int) - 1))) = bv at *
  (refine ACalls.bodyB (fn := Tryz.f68) (ng := 4) (N := 55) (res := [.tmp 4]) (by kernel_rfl) rfl rfl rfl (by kernel_rfl) (fun En hs => ?_); simp only [argsL, Nat.reduceAdd])
  have sv := hv.sv
  have sbv := ht2.sv
  clear hs
  ((repeat refine CWp.seq ?_); refine CWp.region ?_)
  repeat (first | refine RL.w good ?_ | refine RL.k ?_)
  refine RL.nil ?_
  (try simp (disch := omega) only [qA])
  ((repeat refine CWp.seq ?_); refine CWp.drawI good (fun g => memN g []) [(0, true), (1, true), (2, true), (3, true), (4, true), (5, true), (6, true), (7, true), (8, true), (9, true), (10, true), (11, true), (12, true)] (by kernel_rfl) (fun _ _ _ q => q) ?_)
  repeat (first | refine PL.w ?_ | refine PL.wk ?_ | refine PL.ew ?_ | refine PL.ewk ?_)
  refine PL.nil ?_
  (try simp (disch := omega) only [qA])
  clear hlen hidx hld
  have hlen := ht2.len
  have hidx := ht2.idx
  have hld := ht2.ld
  have hsm : Hid (Small (l.take ((l.length : Int) - 1).toNat)) := ⟨hs0.take _⟩
  have hll : (l.take ((l.length : Int) - 1).toNat).length = l.length - 1 := by simp only [List.length_take]; omega
  generalize l.take ((l.length : Int) - 1).toNat = l2 at *
  generalize l.getD (l.length - 1) 0 = n at *
  replace hs0 := Hid.mk hs0
  ((repeat refine CWp.seq ?_); refine CWp.region ?_)
  repeat (first | refine RL.w good ?_ | refine RL.k ?_)
  refine RL.nil ?_
  (try simp (disch := omega) only [qA])
  refine CWp.cut (fun (out : Int) => (tl [(2, .pointer (some ⟨loc h 0, 0, none⟩)), (5, .int .i64 n), (6, bv), (7, .int .i64 out)], ov h [] [(0, .cells [.int .i64 a, .int .i64 b] false 24)] 1)) (fun out => 0 ≤ out ∧ out ≤ 1001) ?_ ?_
  · ((repeat refine CWp.seq ?_); refine CWp.region ?_)
    repeat (first | refine RL.w good ?_ | refine RL.k ?_)
    cases hm : (n.tmod 2 == 0)
    · repeat (first | refine RL.w good ?_ | refine RL.k ?_)
      refine RL.nil ?_
      (try simp (disch := omega) only [qA])
      ((repeat refine CWp.seq ?_); refine CWp.cnd good ?_ ?_)
      · intro hc; cases hc
      · intro _
        (refine CWp.skip ?_; (try simp (disch := omega) only [qA]))
        refine ⟨1001, by omega, ?_⟩
        ((try dsimp only); apply fades_to En [(0, 0)]; (· (repeat (refine And.intro ?_ ?_; (· ((try simp only [push_cast, reduceIte, Nat.reduceEqDiff, *]) <;> first | exact rfl | exact SV.fv En (by assumption) | exact ⟨_, rfl, Rn_loc ⟨_, rfl⟩ rfl, rfl, rfl⟩ | exact ⟨_, _, rfl, rfl, rfl⟩ | exact congrArg (Value.int _) (by omega))))) <;> exact trivial); (· exact trivial); (· exact trivial); (· (repeat (refine And.intro ⟨by decide, _, _, rfl, rfl, ?_⟩ ?_; (· (first | exact ⟨_, rfl, flatsFV rfl⟩ | exact ⟨_, rfl, intsFVL _⟩ | (refine ⟨_, rfl, ?_⟩; (repeat (refine ⟨_, _, rfl, ?_, ?_⟩; (· (first | exact rfl | exact SV.fv En (by assumption) | exact ⟨_, rfl, Rn_loc ⟨_, rfl⟩ rfl, rfl, rfl⟩ | exact ⟨_, _, rfl, rfl, rfl⟩ | exact congrArg (Value.int _) (by omega))))); exact rfl))))) <;> exact trivial); (· exact rfl))
    · repeat (first | refine RL.w good ?_ | refine RL.k ?_)
      (refine' RL.c good ?_ ?_ ?_; rotate_left)
      · exact f65s _ _ _ _ (ht2.ov _ _) (by omega)
      · rintro v' h' ⟨e, rfl⟩
        cases e
        simp only [push_cast]
        repeat (first | refine RL.w good ?_ | refine RL.k ?_)
        refine RL.nil ?_
        (try simp (disch := omega) only [qA])
        ((repeat refine CWp.seq ?_); refine CWp.cnd good ?_ ?_)
        · intro _
          ((repeat refine CWp.seq ?_); refine CWp.region ?_)
          repeat (first | refine RL.w good ?_ | refine RL.k ?_)
          refine RL.nil ?_
          (try simp (disch := omega) only [qA])
          refine ⟨a, by omega, ?_⟩
          ((try dsimp only); apply fades_to En [(0, 0)]; (· (repeat (refine And.intro ?_ ?_; (· ((try simp only [push_cast, reduceIte, Nat.reduceEqDiff, *]) <;> first | exact rfl | exact SV.fv En (by assumption) | exact ⟨_, rfl, Rn_loc ⟨_, rfl⟩ rfl, rfl, rfl⟩ | exact ⟨_, _, rfl, rfl, rfl⟩ | exact congrArg (Value.int _) (by omega))))) <;> exact trivial); (· exact trivial); (· exact trivial); (· (repeat (refine And.intro ⟨by decide, _, _, rfl, rfl, ?_⟩ ?_; (· (first | exact ⟨_, rfl, flatsFV rfl⟩ | exact ⟨_, rfl, intsFVL _⟩ | (refine ⟨_, rfl, ?_⟩; (repeat (refine ⟨_, _, rfl, ?_, ?_⟩; (· (first | exact rfl | exact SV.fv En (by assumption) | exact ⟨_, rfl, Rn_loc ⟨_, rfl⟩ rfl, rfl, rfl⟩ | exact ⟨_, _, rfl, rfl, rfl⟩ | exact congrArg (Value.int _) (by omega))))); exact rfl))))) <;> exact trivial); (· exact rfl))
        · intro _
          (refine CWp.skip ?_; (try simp (disch := omega) only [qA]))
          refine ⟨1001, by omega, ?_⟩
          ((try dsimp only); apply fades_to En [(0, 0)]; (· (repeat (refine And.intro ?_ ?_; (· ((try simp only [push_cast, reduceIte, Nat.reduceEqDiff, *]) <;> first | exact rfl | exact SV.fv En (by assumption) | exact ⟨_, rfl, Rn_loc ⟨_, rfl⟩ rfl, rfl, rfl⟩ | exact ⟨_, _, rfl, rfl, rfl⟩ | exact congrArg (Value.int _) (by omega))))) <;> exact trivial); (· exact trivial); (· exact trivial); (· (repeat (refine And.intro ⟨by decide, _, _, rfl, rfl, ?_⟩ ?_; (· (first | exact ⟨_, rfl, flatsFV rfl⟩ | exact ⟨_, rfl, intsFVL _⟩ | (refine ⟨_, rfl, ?_⟩; (repeat (refine ⟨_, _, rfl, ?_, ?_⟩; (· (first | exact rfl | exact SV.fv En (by assumption) | exact ⟨_, rfl, Rn_loc ⟨_, rfl⟩ rfl, rfl, rfl⟩ | exact ⟨_, _, rfl, rfl, rfl⟩ | exact congrArg (Value.int _) (by omega))))); exact rfl))))) <;> exact trivial); (· exact rfl))
      · rintro v h' ⟨e, _⟩; cases e
  · intro out0 hout0
    dsimp only at hout0 ⊢
    ((repeat refine CWp.seq ?_); refine CWp.region ?_)
    repeat (first | refine RL.w good ?_ | refine RL.k ?_)
    refine RL.nil ?_
    (try simp (disch := omega) only [qA])
    ((repeat refine CWp.seq ?_); refine CWp.block ?_)
    refine CWp.loop (fun (s : Nat × Int) => (tl [(2, .pointer (some ⟨loc h 0, 0, none⟩)), (5, .int .i64 n), (6, bv), (7, .int .i64 s.2), (32, bv), (33, .int .i64 l2.length), (34, .int .i64 s.1)], ov h [] [(0, .cells [.int .i64 a, .int .i64 b] false 24)] 1)) (fun s => l2.length - s.1)
      (fun s => s.1 ≤ l2.length ∧ 0 ≤ s.2 ∧ s.2 ≤ 1001) (0, out0) ⟨by omega, by omega, by omega⟩ ?_ ?_
    · ((try dsimp only); apply fades_to En [(0, 0)]; (· (repeat (refine And.intro ?_ ?_; (· ((try simp only [push_cast, reduceIte, Nat.reduceEqDiff, *]) <;> first | exact rfl | exact SV.fv En (by assumption) | exact ⟨_, rfl, Rn_loc ⟨_, rfl⟩ rfl, rfl, rfl⟩ | exact ⟨_, _, rfl, rfl, rfl⟩ | exact congrArg (Value.int _) (by omega))))) <;> exact trivial); (· exact trivial); (· exact trivial); (· (repeat (refine And.intro ⟨by decide, _, _, rfl, rfl, ?_⟩ ?_; (· (first | exact ⟨_, rfl, flatsFV rfl⟩ | exact ⟨_, rfl, intsFVL _⟩ | (refine ⟨_, rfl, ?_⟩; (repeat (refine ⟨_, _, rfl, ?_, ?_⟩; (· (first | exact rfl | exact SV.fv En (by assumption) | exact ⟨_, rfl, Rn_loc ⟨_, rfl⟩ rfl, rfl, rfl⟩ | exact ⟨_, _, rfl, rfl, rfl⟩ | exact congrArg (Value.int _) (by omega))))); exact rfl))))) <;> exact trivial); (· exact rfl))
    · rintro ⟨i, out⟩ ⟨h1, h2, h3⟩
      dsimp only at h1 h2 h3 ⊢
      ((repeat refine CWp.seq ?_); refine CWp.region ?_)
      repeat (first | refine RL.w good ?_ | refine RL.k ?_)
      refine RL.nil ?_
      (try simp (disch := omega) only [qA])
      ((repeat refine CWp.seq ?_); refine CWp.cnd good ?_ ?_)
      · (intro hc; (try simp only [decide_eq_true_eq, decide_eq_false_iff_not, Bool.not_eq_true, Bool.not_eq_false, Int.not_lt, Int.not_le, bne_iff_ne, beq_iff_eq, ne_eq, Bool.not_eq_eq_eq_not, Bool.not_true, Bool.not_false] at hc))
        have hx := hsm.out i
        (refine CWp.skip ?_; (try simp (disch := omega) only [qA]))
        refine CWp.cut (fun (out : Int) => (tl [(2, .pointer (some ⟨loc h 0, 0, none⟩)), (5, .int .i64 n), (6, bv), (7, .int .i64 out), (32, bv), (33, .int .i64 l2.length), (34, .int .i64 i)], ov h [] [(0, .cells [.int .i64 a, .int .i64 b] false 24)] 1)) (fun out => 0 ≤ out ∧ out ≤ 1001) ?_ ?_
        · ((repeat refine CWp.seq ?_); refine CWp.block ?_)
          ((repeat refine CWp.seq ?_); refine CWp.region ?_)
          repeat (first | refine RL.w good ?_ | refine RL.k ?_)
          refine RL.nil ?_
          (try simp (disch := omega) only [qA])
          ((repeat refine CWp.seq ?_); refine CWp.region ?_)
          repeat (first | refine RL.w good ?_ | refine RL.k ?_)
          generalize l2.getD i 0 = x at *
          cases hm : (2 * x != n)
          · repeat (first | refine RL.w good ?_ | refine RL.k ?_)
            refine RL.nil ?_
            (try simp (disch := omega) only [qA])
            ((repeat refine CWp.seq ?_); refine CWp.cnd good ?_ ?_)
            · intro hc; cases hc
            · intro _
              (refine CWp.skip ?_; (try simp (disch := omega) only [qA]))
              refine ⟨out, by omega, ?_⟩
              ((try dsimp only); apply fades_to En [(0, 0)]; (· (repeat (refine And.intro ?_ ?_; (· ((try simp only [push_cast, reduceIte, Nat.reduceEqDiff, *]) <;> first | exact rfl | exact SV.fv En (by assumption) | exact ⟨_, rfl, Rn_loc ⟨_, rfl⟩ rfl, rfl, rfl⟩ | exact ⟨_, _, rfl, rfl, rfl⟩ | exact congrArg (Value.int _) (by omega))))) <;> exact trivial); (· exact trivial); (· exact trivial); (· (repeat (refine And.intro ⟨by decide, _, _, rfl, rfl, ?_⟩ ?_; (· (first | exact ⟨_, rfl, flatsFV rfl⟩ | exact ⟨_, rfl, intsFVL _⟩ | (refine ⟨_, rfl, ?_⟩; (repeat (refine ⟨_, _, rfl, ?_, ?_⟩; (· (first | exact rfl | exact SV.fv En (by assumption) | exact ⟨_, rfl, Rn_loc ⟨_, rfl⟩ rfl, rfl, rfl⟩ | exact ⟨_, _, rfl, rfl, rfl⟩ | exact congrArg (Value.int _) (by omega))))); exact rfl))))) <;> exact trivial); (· exact rfl))
          · repeat (first | refine RL.w good ?_ | refine RL.k ?_)
            (refine' RL.c good ?_ ?_ ?_; rotate_left)
            · exact f65s _ _ _ _ (ht2.ov _ _) (by omega)
            · rintro v' h' ⟨e, rfl⟩
              cases e
              simp only [push_cast]
              repeat (first | refine RL.w good ?_ | refine RL.k ?_)
              refine RL.nil ?_
              (try simp (disch := omega) only [qA])
              ((repeat refine CWp.seq ?_); refine CWp.cnd good ?_ ?_)
              · intro _
                ((repeat refine CWp.seq ?_); refine CWp.region ?_)
                repeat (first | refine RL.w good ?_ | refine RL.k ?_)
                refine RL.nil ?_
                (try simp (disch := omega) only [qA])
                refine ⟨bif decide (b < out) then b else out, by cases decide (b < out) <;> simp only [cond_true, cond_false] <;> omega, ?_⟩
                ((try dsimp only); apply fades_to En [(0, 0)]; (· (repeat (refine And.intro ?_ ?_; (· ((try simp only [push_cast, reduceIte, Nat.reduceEqDiff, *]) <;> first | exact rfl | exact SV.fv En (by assumption) | exact ⟨_, rfl, Rn_loc ⟨_, rfl⟩ rfl, rfl, rfl⟩ | exact ⟨_, _, rfl, rfl, rfl⟩ | exact congrArg (Value.int _) (by omega))))) <;> exact trivial); (· exact trivial); (· exact trivial); (· (repeat (refine And.intro ⟨by decide, _, _, rfl, rfl, ?_⟩ ?_; (· (first | exact ⟨_, rfl, flatsFV rfl⟩ | exact ⟨_, rfl, intsFVL _⟩ | (refine ⟨_, rfl, ?_⟩; (repeat (refine ⟨_, _, rfl, ?_, ?_⟩; (· (first | exact rfl | exact SV.fv En (by assumption) | exact ⟨_, rfl, Rn_loc ⟨_, rfl⟩ rfl, rfl, rfl⟩ | exact ⟨_, _, rfl, rfl, rfl⟩ | exact congrArg (Value.int _) (by omega))))); exact rfl))))) <;> exact trivial); (· exact rfl))
              · intro _
                (refine CWp.skip ?_; (try simp (disch := omega) only [qA]))
                refine ⟨out, by omega, ?_⟩
                ((try dsimp only); apply fades_to En [(0, 0)]; (· (repeat (refine And.intro ?_ ?_; (· ((try simp only [push_cast, reduceIte, Nat.reduceEqDiff, *]) <;> first | exact rfl | exact SV.fv En (by assumption) | exact ⟨_, rfl, Rn_loc ⟨_, rfl⟩ rfl, rfl, rfl⟩ | exact ⟨_, _, rfl, rfl, rfl⟩ | exact congrArg (Value.int _) (by omega))))) <;> exact trivial); (· exact trivial); (· exact trivial); (· (repeat (refine And.intro ⟨by decide, _, _, rfl, rfl, ?_⟩ ?_; (· (first | exact ⟨_, rfl, flatsFV rfl⟩ | exact ⟨_, rfl, intsFVL _⟩ | (refine ⟨_, rfl, ?_⟩; (repeat (refine ⟨_, _, rfl, ?_, ?_⟩; (· (first | exact rfl | exact SV.fv En (by assumption) | exact ⟨_, rfl, Rn_loc ⟨_, rfl⟩ rfl, rfl, rfl⟩ | exact ⟨_, _, rfl, rfl, rfl⟩ | exact congrArg (Value.int _) (by omega))))); exact rfl))))) <;> exact trivial); (· exact rfl))
            · rintro v h' ⟨e, _⟩; cases e
        · intro out1 hout1
          dsimp only at hout1 ⊢
          ((repeat refine CWp.seq ?_); refine CWp.region ?_)
          repeat (first | refine RL.w good ?_ | refine RL.k ?_)
          refine RL.nil ?_
          (try simp (disch := omega) only [qA])
          refine ⟨(i + 1, out1), ⟨by dsimp only; omega, hout1⟩, by dsimp only; omega, ?_⟩
          ((try dsimp only); apply fades_to En [(0, 0)]; (· (repeat (refine And.intro ?_ ?_; (· ((try simp only [push_cast, reduceIte, Nat.reduceEqDiff, *]) <;> first | exact rfl | exact SV.fv En (by assumption) | exact ⟨_, rfl, Rn_loc ⟨_, rfl⟩ rfl, rfl, rfl⟩ | exact ⟨_, _, rfl, rfl, rfl⟩ | exact congrArg (Value.int _) (by omega))))) <;> exact trivial); (· exact trivial); (· exact trivial); (· (repeat (refine And.intro ⟨by decide, _, _, rfl, rfl, ?_⟩ ?_; (· (first | exact ⟨_, rfl, flatsFV rfl⟩ | exact ⟨_, rfl, intsFVL _⟩ | (refine ⟨_, rfl, ?_⟩; (repeat (refine ⟨_, _, rfl, ?_, ?_⟩; (· (first | exact rfl | exact SV.fv En (by assumption) | exact ⟨_, rfl, Rn_loc ⟨_, rfl⟩ rfl, rfl, rfl⟩ | exact ⟨_, _, rfl, rfl, rfl⟩ | exact congrArg (Value.int _) (by omega))))); exact rfl))))) <;> exact trivial); (· exact rfl))
      · (intro hc; (try simp only [decide_eq_true_eq, decide_eq_false_iff_not, Bool.not_eq_true, Bool.not_eq_false, Int.not_lt, Int.not_le, bne_iff_ne, beq_iff_eq, ne_eq, Bool.not_eq_eq_eq_not, Bool.not_true, Bool.not_false] at hc))
        (refine CWp.exit ?_; (try simp (disch := omega) only [qA]))
        ((repeat refine CWp.seq ?_); refine CWp.region ?_)
        repeat (first | refine RL.w good ?_ | refine RL.k ?_)
        refine RL.nil ?_
        (try simp (disch := omega) only [qA])
        (refine CWp.ret ?_; (try simp (disch := omega) only [qA]); refine rtB ?_; (try simp only [oneV]))
        exact EndB.plain En rfl ⟨out, rfl, by omega, by omega, rfl⟩
theorem f49s (a b : Int) (v : Value) (l : List Int) (h : Hp) (hv : IsInts h v l) (hl : l.length ≤ 20) (hs0 : Small l) (ha : 0 ≤ a ∧ a ≤ 1000) (hb : 0 ≤ b ∧ b ≤ 1000) :
    ACalls Tryz.prog 49 [.agg #[.int .i64 a, .int .i64 b], v] (fun e h' => ∃ c, e = .ret (.int .i64 c) ∧ 0 ≤ c ∧ c ≤ 100000 ∧ h' = h) h := by
  have hlen := hv.len
  (refine ACalls.bodyB (fn := Tryz.f49) (ng := 4) (N := 21) (res := [.tmp 4]) (by kernel_rfl) rfl rfl rfl (by kernel_rfl) (fun En hs => ?_); simp only [argsL, Nat.reduceAdd])
  have sv := hv.sv
  clear hs
  ((repeat refine CWp.seq ?_); refine CWp.region ?_)
  repeat (first | refine RL.w good ?_ | refine RL.k ?_)
  refine RL.nil ?_
  ((repeat refine CWp.seq ?_); refine CWp.region ?_)
  repeat (first | refine RL.w good ?_ | refine RL.k ?_)
  refine RL.nil ?_
  (try simp (disch := omega) only [qA])
  ((repeat refine CWp.seq ?_); refine CWp.region ?_)
  repeat (first | refine RL.w good ?_ | refine RL.k ?_)
  refine RL.nil ?_
  (try simp (disch := omega) only [qA])
  ((repeat refine CWp.seq ?_); refine CWp.block ?_)
  refine CWp.loop (fun (s : Nat × Int) => (tl [(1, v), (2, .pointer (some ⟨loc h 0, 0, none⟩)), (5, .int .i64 s.2), (6, .int .i64 ((s.1 : Int) + 2))], ov h [] [(0, .cells [.int .i64 a, .int .i64 b] false 24)] 1)) (fun s => l.length - s.1)
    (fun s => s.1 ≤ l.length ∧ 0 ≤ s.2 ∧ s.2 ≤ s.1 * 1001) (0, 0) ⟨by omega, by omega, by omega⟩ ?_ ?_
  · ((try dsimp only); apply fades_to En [(0, 0)]; (· (repeat (refine And.intro ?_ ?_; (· ((try simp only [push_cast, reduceIte, Nat.reduceEqDiff, *]) <;> first | exact rfl | exact SV.fv En (by assumption) | exact ⟨_, rfl, Rn_loc ⟨_, rfl⟩ rfl, rfl, rfl⟩ | exact ⟨_, _, rfl, rfl, rfl⟩ | exact congrArg (Value.int _) (by omega))))) <;> exact trivial); (· exact trivial); (· exact trivial); (· (repeat (refine And.intro ⟨by decide, _, _, rfl, rfl, ?_⟩ ?_; (· (first | exact ⟨_, rfl, flatsFV rfl⟩ | exact ⟨_, rfl, intsFVL _⟩ | (refine ⟨_, rfl, ?_⟩; (repeat (refine ⟨_, _, rfl, ?_, ?_⟩; (· (first | exact rfl | exact SV.fv En (by assumption) | exact ⟨_, rfl, Rn_loc ⟨_, rfl⟩ rfl, rfl, rfl⟩ | exact ⟨_, _, rfl, rfl, rfl⟩ | exact congrArg (Value.int _) (by omega))))); exact rfl))))) <;> exact trivial); (· exact rfl))
  · rintro ⟨i, sum⟩ ⟨h1, h2, h3⟩
    dsimp only at h1 h2 h3 ⊢
    ((repeat refine CWp.seq ?_); refine CWp.region ?_)
    repeat (first | refine RL.w good ?_ | refine RL.k ?_)
    refine RL.nil ?_
    (try simp (disch := omega) only [qA])
    ((repeat refine CWp.seq ?_); refine CWp.cnd good ?_ ?_)
    · (intro hc; (try simp only [decide_eq_true_eq, decide_eq_false_iff_not, Bool.not_eq_true, Bool.not_eq_false, Int.not_lt, Int.not_le, bne_iff_ne, beq_iff_eq, ne_eq, Bool.not_eq_eq_eq_not, Bool.not_true, Bool.not_false] at hc))
      obtain ⟨ht1, ht2⟩ := hv.take (b := (i : Int) + 2) (by omega) (by omega)
      have hsm := hs0.take ((i : Int) + 2).toNat
      have hll : (l.take ((i : Int) + 2).toNat).length = i + 2 := by simp only [List.length_take]; omega
      replace hsm := Hid.mk hsm
      replace hll := Hid.mk hll
      generalize subV Tryz.prog 22 v none (some (.int .i64 ((i : Int) + 2))) = bv at *
      (refine CWp.skip ?_; (try simp (disch := omega) only [qA]))
      ((repeat refine CWp.seq ?_); refine CWp.block ?_)
      ((repeat refine CWp.seq ?_); refine CWp.drawI good (fun g => memN g []) [(0, true), (1, true), (2, true), (3, true), (4, true), (5, false), (6, true), (7, true)] (by kernel_rfl) (fun _ _ _ q => q) ?_)
      repeat (first | refine PL.w ?_ | refine PL.wk ?_ | refine PL.ew ?_ | refine PL.ewk ?_)
      (apply PL.efcall; (· (first | exact rfl | (simp only [push_cast, reduceIte, Nat.reduceEqDiff, *]; done) | (simp only [push_cast, reduceIte, Nat.reduceEqDiff, *]; exact rfl))); (· (exact rfl)); (· (exact rfl)); (· (simp (disch := omega) only [push_cast, reduceIte, Nat.reduceEqDiff, beq_self_eq_true, bne_self_eq_false, Int.reduceBEq, Int.reduceBNe, Int.reduceLT, Int.reduceLE, Nat.reduceAdd, Nat.reduceMul, Nat.reduceSub, Int.reduceToNat, Nat.reducePow, Int.reducePow, *] <;> exact rfl)); (· (exact en (by kernel_rfl))); (· (simp (disch := omega) only [push_cast, reduceIte, Nat.reduceEqDiff, beq_self_eq_true, bne_self_eq_false, Int.reduceBEq, Int.reduceBNe, Int.reduceLT, Int.reduceLE, Nat.reduceAdd, Nat.reduceMul, Nat.reduceSub, Int.reduceToNat, Nat.reducePow, Int.reducePow, *] <;> exact rfl)))
      · exact f68s a b _ _ _ (ht2.ov _ _) (by have := hll.out; omega) (by have := hll.out; omega) hsm.out ha hb
      · rintro v' h' ⟨c, e, hc1, hc2, rfl⟩
        cases e
        refine ⟨?_, ?_⟩
        · repeat (first | exact ReF.nil | (refine ReF.dep (by exact rfl) ?_))
        simp only [push_cast]
        repeat (first | refine PL.w ?_ | refine PL.wk ?_ | refine PL.ew ?_ | refine PL.ewk ?_)
        refine PL.nil ?_
        (try simp (disch := omega) only [qA])
        ((repeat refine CWp.seq ?_); refine CWp.region ?_)
        repeat (first | refine RL.w good ?_ | refine RL.k ?_)
        refine RL.nil ?_
        (try simp (disch := omega) only [qA])
        refine ⟨(i + 1, sum + c), ⟨by dsimp only; omega, by dsimp only; omega, by dsimp only; omega⟩, by dsimp only; omega, ?_⟩
        ((try dsimp only); apply fades_to En [(0, 0)]; (· (repeat (refine And.intro ?_ ?_; (· ((try simp only [push_cast, reduceIte, Nat.reduceEqDiff, *]) <;> first | exact rfl | exact SV.fv En (by assumption) | exact ⟨_, rfl, Rn_loc ⟨_, rfl⟩ rfl, rfl, rfl⟩ | exact ⟨_, _, rfl, rfl, rfl⟩ | exact congrArg (Value.int _) (by omega))))) <;> exact trivial); (· exact trivial); (· exact trivial); (· (repeat (refine And.intro ⟨by decide, _, _, rfl, rfl, ?_⟩ ?_; (· (first | exact ⟨_, rfl, flatsFV rfl⟩ | exact ⟨_, rfl, intsFVL _⟩ | (refine ⟨_, rfl, ?_⟩; (repeat (refine ⟨_, _, rfl, ?_, ?_⟩; (· (first | exact rfl | exact SV.fv En (by assumption) | exact ⟨_, rfl, Rn_loc ⟨_, rfl⟩ rfl, rfl, rfl⟩ | exact ⟨_, _, rfl, rfl, rfl⟩ | exact congrArg (Value.int _) (by omega))))); exact rfl))))) <;> exact trivial); (· exact rfl))
      · rintro v h' ⟨c, e, _⟩; cases e
    · (intro hc; (try simp only [decide_eq_true_eq, decide_eq_false_iff_not, Bool.not_eq_true, Bool.not_eq_false, Int.not_lt, Int.not_le, bne_iff_ne, beq_iff_eq, ne_eq, Bool.not_eq_eq_eq_not, Bool.not_true, Bool.not_false] at hc))
      (refine CWp.exit ?_; (try simp (disch := omega) only [qA]))
      ((repeat refine CWp.seq ?_); refine CWp.region ?_)
      repeat (first | refine RL.w good ?_ | refine RL.k ?_)
      refine RL.nil ?_
      (try simp (disch := omega) only [qA])
      (refine CWp.ret ?_; (try simp (disch := omega) only [qA]); refine rtB ?_; (try simp only [oneV]))
      exact EndB.plain En rfl ⟨sum, rfl, by omega, by omega, rfl⟩
end Go.Ab
