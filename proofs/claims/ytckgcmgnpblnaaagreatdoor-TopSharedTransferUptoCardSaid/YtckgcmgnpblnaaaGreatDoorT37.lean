/- A part of the proof of a law over a given program: E8, E9. -/
import Derived.Test.YtckgcmgnpblnaaaGreatDoorT36
set_option linter.unusedVariables false
set_option linter.unusedSimpArgs false
namespace Go.Ab
open Go.Proofs
set_option maxRecDepth 10000
attribute [local push_cast] ldN_lowU ov_low takeN_one Option.toList_some Nat.mul_one Nat.add_zero Nat.zero_add goIntI Int.zero_add wrap1
set_option maxHeartbeats 16000000 in
theorem f4s {h : Hp} {chV spV : Value} {ch sp : List Int} {n st p1 p2 : Int} (hch : IsInts h chV ch) (hsp : IsInts h spV sp) (hl : ch.length + sp.length ≤ 1048570) {cb cc : Nat} {gs : List FuncId} {ro : Bool} {el : Nat} (hcb : cb < h.next)
    (hgc : h.get cb = some (.cells (gs.map fun g => .func (.func g) #[] #[]) ro el)) (hgs : ∀ g ∈ gs, Enters Tryz.prog g ∧ CallOK g) (hln : gs.length ≤ 1000) :
    ACalls Tryz.prog 4 [.agg #[chV, .int .i64 n, .int .i64 st, spV, .int .i64 p1, .int .i64 p2], .func (.func 5) #[] #[], .func (.func 6) #[] #[], .slice (some ⟨cb, 0, none⟩) gs.length cc] (fun e h' => e = .ret (.bool true) ∧ Ext h h') h := by
  obtain ⟨a1, m1, c1, rfl⟩ := slV h chV ch hch
  obtain ⟨a2, m2, c2, rfl⟩ := slV h spV sp hsp
  (refine ACalls.bodyB (fn := Tryz.f4) (ng := 4) (N := 88) (res := [.tmp 8]) (by kernel_rfl) rfl rfl rfl (by kernel_rfl) (fun En hs => ?_); simp only [argsL, Nat.reduceAdd])
  clear hs
  ((repeat refine CWp.seq ?_); refine CWp.region ?_)
  repeat (first | refine RL.w good ?_ | refine RL.k ?_)
  refine RL.nil ?_
  (try simp (disch := omega) only [qR])
  ((repeat refine CWp.seq ?_); refine CWp.region ?_)
  repeat (first | refine RL.w good ?_ | refine RL.k ?_)
  refine RL.nil ?_
  (try simp (disch := omega) only [qR])
  ((repeat refine CWp.seq ?_); refine CWp.region ?_)
  repeat (first | refine RL.w good ?_ | refine RL.k ?_)
  have hnx : (Ab.ov h [] [(1, .cells [.slice none 0 0, .slice none 0 0, .bool false, .int .i64 0] false 58), (0, .cells [.slice a1 m1 c1, .int .i64 n, .int .i64 st, .slice a2 m2 c2, .int .i64 p1, .int .i64 p2] false 26)] 2).next = h.next + 2 := by rw [ov_next]; unfold loc; rfl
  have hp0 : h.next ≤ loc h 0 ∧ loc h 0 < h.next + 1 := by unfold loc; omega
  have hp1 : h.next + 1 ≤ loc h 1 ∧ loc h 1 < h.next + 2 := by unfold loc; omega
  have x1 : Ext h (Ab.ov h [] [(1, .cells [.slice none 0 0, .slice none 0 0, .bool false, .int .i64 0] false 58), (0, .cells [.slice a1 m1 c1, .int .i64 n, .int .i64 st, .slice a2 m2 c2, .int .i64 p1, .int .i64 p2] false 26)] 2) := .ov
  have hgx : (Ab.ov h [] [(1, .cells [.slice none 0 0, .slice none 0 0, .bool false, .int .i64 0] false 58), (0, .cells [.slice a1 m1 c1, .int .i64 n, .int .i64 st, .slice a2 m2 c2, .int .i64 p1, .int .i64 p2] false 26)] 2).get (loc h 0) = some (.cells [.slice a1 m1 c1, .int .i64 n, .int .i64 st, .slice a2 m2 c2, .int .i64 p1, .int .i64 p2] false 26) := by rw [ov_loc]; rfl
  have eye1 : Eye 58 3 9 (Ab.ov h [] [(1, .cells [.slice none 0 0, .slice none 0 0, .bool false, .int .i64 0] false 58), (0, .cells [.slice a1 m1 c1, .int .i64 n, .int .i64 st, .slice a2 m2 c2, .int .i64 p1, .int .i64 p2] false 26)] 2) (loc h 1) (fun x => x = loc h 1) [] [] false 0 := .fresh (by decide) rfl rfl
  have hat : ∀ {v : Value} {l : List Int}, IsInts h v l → ∀ x, At v x → x < h.next := by
    rintro v l hv x ⟨o, k, c, rfl⟩
    rcases hv.told with ⟨q, _⟩ | ⟨i, o', c', ob, ro', e', q, hi, _⟩
    · cases q
    · cases q; exact hi
  have A0 : SeePre 58 3 9 tTr (Ab.ov h [] [(1, .cells [.slice none 0 0, .slice none 0 0, .bool false, .int .i64 0] false 58), (0, .cells [.slice a1 m1 c1, .int .i64 n, .int .i64 st, .slice a2 m2 c2, .int .i64 p1, .int .i64 p2] false 26)] 2) (loc h 0) 0 (loc h 1) (fun x => x = loc h 1) [] [] (trObs ch sp n st p1 p2) [] false 0 := by
    refine ⟨rep_tr hgx (hch.ext x1).sl (hsp.ext x1).sl, eye1, fun x y hf => ?_, fun q => (by cases q), fun q => (by cases q), ?_, by simp, ?_⟩
    · rw [hnx]
      rcases foot_tr hgx hf with q | q | q
      · omega
      · have := hat hch x q; omega
      · have := hat hsp x q; omega
    · rw [trObs_length]; simp; omega
    · rw [trObs_length]; simp; omega
  have hTl0 : (trObs ch sp n st p1 p2).length ≤ 1048576 := by rw [trObs_length]; omega
  (refine' RL.c good ?_ ?_ ?_; rotate_left)
  · exact ACalls.entryR (f6s.calls A0)
  · rintro v h2 ⟨p0, En2⟩
    obtain ⟨e, ns', ss', at', eye2, _, q1, _, _, F2⟩ := p0
    cases e
    obtain ⟨rfl, rfl⟩ := q1 rfl
    simp only [List.nil_append] at eye2
    have k2 := F2.kp (X := fun x => x = loc h 1) (fun i hi => hi) (fun i o hi => by cases hi.1)
    have x2 : Ext h h2 := k2.ext x1 (fun i hi => by omega)
    have hn2 : h.next + 2 ≤ h2.next := by have := k2.1; omega
    have gx2 := (k2.2 (loc h 0) (by omega) (by omega)).trans hgx
    clear hgx x1 eye1 A0 F2 k2 q1 hnx
    obtain ⟨nv, sv, g2, b2, _, o1, o2, _⟩ := id eye2
    have KG := f34s (m := false) (a := at') o1.slV o2.slV (by omega) (by simp)
    obtain ⟨_, _, rfl, _⟩ := o1.slV
    obtain ⟨_, _, rfl, _⟩ := o2.slV
    clear o1 o2
    simp only [ints_length, strsV_length, List.length_nil] at KG g2
    have b0 : loc h 0 < h2.next := by omega
    rw [← ov_self En2.lt]
    refine RL.nil ?_
    (try simp (disch := omega) only [qR])
    ((repeat refine CWp.seq ?_); refine CWp.region ?_)
    repeat (first | refine RL.w good ?_ | refine RL.k ?_)
    (refine' RL.c good ?_ ?_ ?_; rotate_left)
    · rw [ov_self En2.lt]; exact KG
    · rintro v h' ⟨⟨t, e, hgr⟩, rfl⟩
      cases e
      replace hgr := Hid.mk hgr
      refine RL.nil ?_
      (try simp (disch := omega) only [qR])
      ((repeat refine CWp.seq ?_); refine CWp.cnd good ?_ ?_)
      · intro _
        ((repeat refine CWp.seq ?_); refine CWp.region ?_)
        repeat (first | refine RL.w good ?_ | refine RL.k ?_)
        refine RL.nil ?_
        (try simp (disch := omega) only [qR])
        (refine CWp.ret ?_; (try simp (disch := omega) only [qR]); refine rtQ ?_; (try simp only [oneV]))
        exact ⟨by trivial, x2⟩
      · intro ht
        have hgl := hgr.out ht
        rw [trObs_length] at hgl
        have hl1 : ch.length ≤ 1000 := by omega
        have hl2 : sp.length ≤ 1000 := by omega
        have hTl : (trObs ch sp n st p1 p2).length ≤ 10000 := by rw [trObs_length]; omega
        clear hgr hgl hl hTl0
        (refine CWp.skip ?_; (try simp (disch := omega) only [qR]))
        have eye2 := eye2.mono (E' := fun x => h.next ≤ x ∧ x < h'.next) (fun x hx => by rw [ov_next] at hx; have : loc h 2 = h.next + 2 := (by unfold loc; rfl); omega)
        ((repeat refine CWp.seq ?_); refine CWp.region ?_)
        repeat (first | refine RL.w good ?_ | refine RL.k ?_)
        refine RL.nil ?_
        (try simp (disch := omega) only [qR])
        ((repeat refine CWp.seq ?_); refine CWp.block ?_)
        refine CWp.loopR (α := Nat × Hp) (fun s => (tl [(10, .int .i64 s.1), (9, .pointer (some ⟨loc h 1, 0, none⟩)), (8, .bool false), (4, .pointer (some ⟨loc h 0, 0, none⟩)), (1, .func (.func 5) #[] #[]), (2, .func (.func 6) #[] #[]), (3, .slice (some ⟨cb, 0, none⟩) gs.length cc)], s.2)) (fun s => gs.length - s.1) (fun s => s.1 ≤ gs.length ∧ Ext h' s.2) (0, h') ⟨Nat.zero_le _, .refl _⟩ ?_ rfl ?_
        · exact tl_less (by simp [lk])
        · rintro ⟨i, hh⟩ ⟨hi, xh⟩
          simp only at hi xh ⊢
          ((repeat refine CWp.seq ?_); refine CWp.region ?_)
          repeat (first | refine RL.w good ?_ | refine RL.k ?_)
          refine RL.nil ?_
          (try simp (disch := omega) only [qR])
          ((repeat refine CWp.seq ?_); refine CWp.cnd good ?_ ?_)
          · (intro hc; (try simp only [decide_eq_true_eq, decide_eq_false_iff_not, Bool.not_eq_true, Bool.not_eq_false, Int.not_lt, Int.not_le, bne_iff_ne, beq_iff_eq, ne_eq, Bool.not_eq_eq_eq_not, Bool.not_true, Bool.not_false] at hc))
            (refine CWp.skip ?_; (try simp (disch := omega) only [qR]))
            have hin : i < gs.length := by omega
            obtain ⟨g, hx, hg1, hg2⟩ : ∃ g, (gs.map fun g => Value.func (.func g) #[] #[])[i]? = some (.func (.func g) #[] #[]) ∧ Enters Tryz.prog g ∧ CallOK g := ⟨gs[i], by simp [hin], hgs _ (List.getElem_mem hin)⟩
            refine CWp.entry fun EnH => ?_
            have xhh : Ext h hh := x2.trans xh
            have bxh : loc h 0 < hh.next := by have := xh.1; omega
            have gxh := (xh.2 _ b0).trans gx2
            rw [← ov_self EnH.lt]
            ((repeat refine CWp.seq ?_); refine CWp.block ?_)
            ((repeat refine CWp.seq ?_); refine CWp.region ?_)
            repeat (first | refine RL.w good ?_ | refine RL.k ?_)
            (refine' RL.c good ?_ ?_ ?_; rotate_left)
            · rw [ov_self EnH.lt]; exact ACalls.entryR (f5s hh _ _ ch sp n st p1 p2 (hch.ext xhh) (hsp.ext xhh) (by omega) (by omega))
            · rintro v h3 ⟨⟨cv, sv3, e, x3, i1, i2, hd⟩, En3⟩
              cases e
              have nsl : ∀ {v : Value} {l : List Int}, NewInts hh h3 v l → ∃ a n c, v = .slice a n c := by
                rintro v l (⟨rfl, _⟩ | ⟨b, c, rfl, _⟩)
                · exact ⟨_, _, _, rfl⟩
                · exact ⟨_, _, _, rfl⟩
              obtain ⟨a3, m3, k3, rfl⟩ := nsl i1
              obtain ⟨a4, m4, k4, rfl⟩ := nsl i2
              have T := thing_tr (n := n) (st := st) (p1 := p1) (p2 := p2) x3 i1 i2 hd hl1 hl2
              have hl3 : loc h3 0 = h3.next ∧ loc h3 1 = h3.next + 1 := by unfold loc; exact ⟨rfl, rfl⟩
              have hl30 : h3.next ≤ loc h3 0 ∧ loc h3 0 < h3.next + 1 := by omega
              have hl31 : h3.next + 1 ≤ loc h3 1 ∧ loc h3 1 < h3.next + 2 := by omega
              clear hl3
              have bc3 : cb < h3.next := by have := x3.1; have := xhh.1; omega
              have gc3 := (x3.2 cb (by have := xhh.1; omega)).trans ((xhh.2 cb hcb).trans hgc)
              have x4 : Ext h3 (Ab.ov h3 [] [(0, .cells [.slice a3 m3 k3, .int .i64 n, .int .i64 st, .slice a4 m4 k4, .int .i64 p1, .int .i64 p2] false 26)] 1) := .ov
              have ar : ArgAt (Ab.ov h3 [] [(0, .cells [.slice a3 m3 k3, .int .i64 n, .int .i64 st, .slice a4 m4 k4, .int .i64 p1, .int .i64 p2] false 26)] 1) (loc h3 0) _ _ ch sp n st p1 p2 := ⟨by rw [ov_loc]; rfl, by rw [ov_next]; omega, i1.is.ints.ext x4, i2.is.ints.ext x4, by omega, by omega⟩
              have hn4 : (Ab.ov h3 [] [(0, .cells [.slice a3 m3 k3, .int .i64 n, .int .i64 st, .slice a4 m4 k4, .int .i64 p1, .int .i64 p2] false 26)] 1).next = h3.next + 1 := by rw [ov_next]; omega
              rw [← ov_self En3.lt]
              repeat (first | refine RL.w good ?_ | refine RL.k ?_)
              refine RL.nil ?_
              (try simp (disch := omega) only [qR])
              ((repeat refine CWp.seq ?_); refine CWp.region ?_)
              repeat (first | refine RL.w good ?_ | refine RL.k ?_)
              (apply RL.call good; (· (first | exact rfl | (simp only [push_cast, reduceIte, Nat.reduceEqDiff, *]; done) | (simp only [push_cast, reduceIte, Nat.reduceEqDiff, *]; exact rfl))); (· exact rfl); (· exact rfl); (· (simp (disch := omega) only [push_cast, reduceIte, Nat.reduceEqDiff, beq_self_eq_true, bne_self_eq_false, Int.reduceBEq, Int.reduceBNe, Int.reduceLT, Int.reduceLE, Nat.reduceAdd, Nat.reduceMul, Nat.reduceSub, Int.reduceToNat, Nat.reducePow, Int.reducePow, *] <;> exact rfl)); (· exact hg1); (· (simp (disch := omega) only [push_cast, reduceIte, Nat.reduceEqDiff, beq_self_eq_true, bne_self_eq_false, Int.reduceBEq, Int.reduceBNe, Int.reduceLT, Int.reduceLE, Nat.reduceAdd, Nat.reduceMul, Nat.reduceSub, Int.reduceToNat, Nat.reducePow, Int.reducePow, *] <;> exact rfl)))
              · exact ACalls.entryR (hg2 _ _ _ _ ch sp n st p1 p2 ar)
              · rintro v h5 ⟨⟨v5, e, x5, r5⟩, En5⟩
                cases e
                obtain ⟨ob, R5⟩ := r5.res
                rw [hn4] at R5
                have hn5 := x5.1
                rw [hn4] at hn5
                have T5 := T.kp (x5.kp (fun _ => False)) (fun x hx => ⟨by omega, id⟩)
                clear ar r5
                rw [← ov_self En5.lt]
                repeat (first | refine RL.w good ?_ | refine RL.k ?_)
                refine RL.nil ?_
                (try simp (disch := omega) only [qR])
                ((repeat refine CWp.seq ?_); refine CWp.region ?_)
                repeat (first | refine RL.w good ?_ | refine RL.k ?_)
                refine RL.nil ?_
                (try simp (disch := omega) only [qR])
                ((repeat refine CWp.seq ?_); refine CWp.region ?_)
                repeat (first | refine RL.w good ?_ | refine RL.k ?_)
                have hl5 : (h5.next ≤ loc h5 0 ∧ loc h5 0 < h5.next + 1) ∧ (h5.next + 1 ≤ loc h5 1 ∧ loc h5 1 < h5.next + 2) ∧ (h5.next + 2 ≤ loc h5 2 ∧ loc h5 2 < h5.next + 3) := by unfold loc; omega
                generalize h6e : Ab.ov h5 [] [(2, .cells [.slice none 0 0, .slice none 0 0, .bool false, .int .i64 0] false 58), (1, .cells [.slice none 0 0, .slice none 0 0, .bool false, .int .i64 0] false 58), (0, .cells [.slice none 0 0, .slice none 0 0, .bool false, .int .i64 0] false 58)] 3 = h6
                have hn6 : h6.next = h5.next + 3 := by rw [← h6e, ov_next]; unfold loc; rfl
                have x6 : Ext h5 h6 := h6e ▸ .ov
                have ea : Eye 58 3 9 h6 (loc h5 0) (fun x => x = loc h5 0) [] [] false 0 := h6e ▸ .fresh (by decide) rfl rfl
                have eb : Eye 58 3 9 h6 (loc h5 1) (fun x => x = loc h5 1) [] [] false 0 := h6e ▸ .fresh (by decide) rfl rfl
                have ec : Eye 58 3 9 h6 (loc h5 2) (fun x => x = loc h5 2) [] [] false 0 := h6e ▸ .fresh (by decide) rfl rfl
                clear h6e
                have T6 := T5.kp (x6.kp (fun _ => False)) (fun x hx => ⟨by omega, id⟩)
                have R6 := R5.kp (x6.kp (fun _ => False)) (Nat.le_refl _) (fun x _ _ => id)
                have x06 : Ext hh h6 := ((x3.trans x4).trans x5).trans x6
                have hn3 := x3.1
                have e6 : Eye 58 3 9 h6 (loc h 1) (fun x => h.next ≤ x ∧ x < h'.next) (trObs ch sp n st p1 p2) [] false at' := eye2.kp ((xh.trans x06).kp (fun _ => False)) (fun _ _ => id)
                have hnh := xh.1
                clear x5 x6 T5 R5 x4 eye2 T
                (refine' RL.c good ?_ ?_ ?_; rotate_left)
                · exact f6s.step T6 ea (fun x hx => by omega) (by decide)
                · rintro v h7 ⟨⟨e, ns7, ss7, at7, eye7, T7, q7, k7⟩, En7⟩
                  cases e
                  obtain ⟨rfl, rfl⟩ := q7 rfl
                  have k7 : Kp (fun x => x = loc h5 0) h6 h7 := ⟨k7.1, fun j hj hx => k7.2 j hj fun q => by rcases q with q | ⟨q, _⟩; exact hx q; cases q⟩
                  have hn7 := k7.1
                  have R7 := R6.kp k7 (by omega) (fun x _ _ => by omega)
                  have eb7 := eb.kp k7 (fun x hx => by omega)
                  have ec7 := ec.kp k7 (fun x hx => by omega)
                  have e7 := e6.kp k7 (fun x hx => by omega)
                  have x07 := k7.ext x06 (fun x hx => by omega)
                  clear k7 q7 T6 R6 eb ec e6 x06 ea
                  refine RL.nil ?_
                  (try simp (disch := omega) only [qR])
                  ((repeat refine CWp.seq ?_); refine CWp.region ?_)
                  repeat (first | refine RL.w good ?_ | refine RL.k ?_)
                  (refine' RL.c good ?_ ?_ ?_; rotate_left)
                  · exact lookStep R7 (by omega)
                  · rintro v h8 ⟨⟨w, e, l8, x8⟩, En8⟩
                    cases e
                    have hn8 := x8.1
                    have R8 := R7.kp (x8.kp (fun _ => False)) (by omega) (fun x _ _ => id)
                    have eb8 := eb7.kp (x8.kp (fun _ => False)) (fun _ _ => id)
                    have ec8 := ec7.kp (x8.kp (fun _ => False)) (fun _ _ => id)
                    have e8 := e7.kp (x8.kp (fun _ => False)) (fun _ _ => id)
                    have ea8 := eye7.kp (x8.kp (fun _ => False)) (fun _ _ => id)
                    have T8 := T7.kp (x8.kp (fun _ => False)) (fun x hx => ⟨by omega, id⟩)
                    have x08 := x07.trans x8
                    clear R7 eb7 ec7 e7 eye7 T7 x07 x8
                    rw [← ov_self En8.lt]
                    repeat (first | refine RL.w good ?_ | refine RL.k ?_)
                    refine RL.nil ?_
                    (try simp (disch := omega) only [qR])
                    ((repeat refine CWp.seq ?_); refine CWp.region ?_)
                    repeat (first | refine RL.w good ?_ | refine RL.k ?_)
                    have hl8 : h8.next ≤ loc h8 0 ∧ loc h8 0 < h8.next + 1 := by unfold loc; omega
                    generalize h9e : Ab.ov h8 [] [(0, .cells [.slice none 0 0, .slice none 0 0, .bool true, .int .i64 0] false 58)] 1 = h9
                    have hn9 : h9.next = h8.next + 1 := by rw [← h9e, ov_next]; unfold loc; rfl
                    have x9 : Ext h8 h9 := h9e ▸ .ov
                    have em : Eye 58 3 9 h9 (loc h8 0) (fun x => x = loc h8 0) [] [] true 0 := h9e ▸ .fresh (by decide) rfl rfl
                    clear h9e
                    have R9 := R8.kp (x9.kp (fun _ => False)) (by omega) (fun x _ _ => id)
                    have eb9 := eb8.kp (x9.kp (fun _ => False)) (fun _ _ => id)
                    have ec9 := ec8.kp (x9.kp (fun _ => False)) (fun _ _ => id)
                    have e9 := e8.kp (x9.kp (fun _ => False)) (fun _ _ => id)
                    have ea9 := ea8.kp (x9.kp (fun _ => False)) (fun _ _ => id)
                    have l9 := l8.kp (x9.kp (fun _ => False)) (fun _ _ _ => id)
                    have T9 := T8.kp (x9.kp (fun _ => False)) (fun x hx => ⟨by omega, id⟩)
                    have x09 := x08.trans x9
                    clear R8 eb8 ec8 e8 ea8 l8 T8 x08 x9
                    (refine' RL.c good ?_ ?_ ?_; rotate_left)
                    · exact f6s.step T9 em (fun x hx => by omega) (by decide)
                    · rintro v h10 ⟨⟨e, nsm, ssm, atm, _, T10, _, k10⟩, En10⟩
                      cases e
                      have hn10 := k10.1
                      have R10 := R9.kp k10 (by omega) (fun x _ _ => by omega)
                      have eb10 := eb9.kp k10 (fun x hx => by omega)
                      have ec10 := ec9.kp k10 (fun x hx => by omega)
                      have e10 := e9.kp k10 (fun x hx => by omega)
                      have ea10 := ea9.kp k10 (fun x hx => by omega)
                      have l10 := l9.kp k10 (fun x _ _ => by omega)
                      have x010 := k10.ext x09 (fun x hx => by omega)
                      clear R9 eb9 ec9 e9 ea9 l9 T9 x09 k10 em
                      obtain ⟨nva, sva, nvb, svb, ga, gb, la, lb, sa, sb, sc, sd, KS⟩ := Eye.same e10 ea10 hTl (by simp)
                      obtain ⟨_, _, _, rfl⟩ := sa
                      obtain ⟨_, _, _, rfl⟩ := sb
                      obtain ⟨_, _, _, rfl⟩ := sc
                      obtain ⟨_, _, _, rfl⟩ := sd
                      clear e10 ea10
                      rw [← ov_self En10.lt]
                      refine RL.nil ?_
                      (try simp (disch := omega) only [qR])
                      ((repeat refine CWp.seq ?_); refine CWp.region ?_)
                      repeat (first | refine RL.w good ?_ | refine RL.k ?_)
                      (refine' RL.c good ?_ ?_ ?_; rotate_left)
                      · rw [ov_self En10.lt]; exact KS
                      · rintro v hz ⟨e, e2⟩
                        cases e
                        rw [e2]
                        clear e2 KS ga gb
                        repeat (first | refine RL.w good ?_ | refine RL.k ?_)
                        (refine' RL.c good ?_ ?_ ?_; rotate_left)
                        · exact lookStep R10 (by omega)
                        · rintro v h11 ⟨⟨w2, e, l11, x11⟩, En11⟩
                          cases e
                          have hn11 := x11.1
                          have R11 := R10.kp (x11.kp (fun _ => False)) (by omega) (fun x _ _ => id)
                          have eb11 := eb10.kp (x11.kp (fun _ => False)) (fun _ _ => id)
                          have ec11 := ec10.kp (x11.kp (fun _ => False)) (fun _ _ => id)
                          have l10' := l10.kp (x11.kp (fun _ => False)) (fun _ _ _ => id)
                          have T11 := T10.kp (x11.kp (fun _ => False)) (fun x hx => ⟨by omega, id⟩)
                          have x011 := x010.trans x11
                          clear R10 eb10 ec10 l10 T10 x010 x11
                          (refine' RL.c good ?_ ?_ ?_; rotate_left)
                          · exact alikeStep l10' l11 R11.bound
                          · rintro v hz ⟨e, e2⟩
                            cases e
                            rw [e2]
                            clear e2 l10' l11
                            repeat (first | refine RL.w good ?_ | refine RL.k ?_)
                            refine RL.nil ?_
                            (try simp (disch := omega) only [qR])
                            ((repeat refine CWp.seq ?_); refine CWp.cnd good ?_ ?_)
                            · intro hc; cases hc
                            · intro _
                              (refine CWp.skip ?_; (try simp (disch := omega) only [qR]))
                              ((repeat refine CWp.seq ?_); refine CWp.region ?_)
                              repeat (first | refine RL.w good ?_ | refine RL.k ?_)
                              (refine' RL.c good ?_ ?_ ?_; rotate_left)
                              · exact f6s.step T11 eb11 (fun x hx => by omega) (by decide)
                              · rintro v h12 ⟨⟨e, ns12, ss12, at12, eb12, T12, q12, k12⟩, En12⟩
                                cases e
                                obtain ⟨rfl, rfl⟩ := q12 rfl
                                have k12 : Kp (fun x => x = loc h5 1) h11 h12 := ⟨k12.1, fun j hj hx => k12.2 j hj fun q => by rcases q with q | ⟨q, _⟩; exact hx q; cases q⟩
                                have hn12 := k12.1
                                have R12 := R11.kp k12 (by omega) (fun x _ _ => by omega)
                                have ec12 := ec11.kp k12 (fun x hx => by omega)
                                have x012 := k12.ext x011 (fun x hx => by omega)
                                clear R11 eb11 ec11 T11 x011 k12 q12
                                refine RL.nil ?_
                                (try simp (disch := omega) only [qR])
                                refine CWp.cutR (K := fun hE => Thing hE tTr (loc h3 0) (fun x => hh.next ≤ x ∧ x < loc h3 1) ns12 ss12 ∧ (∃ atb, Eye 58 3 9 hE (loc h5 1) (fun x => x = loc h5 1 ∨ (h11.next ≤ x ∧ x < h12.next)) ns12 ss12 false atb) ∧ Eye 58 3 9 hE (loc h5 2) (fun x => x = loc h5 2) [] [] false 0 ∧ Ext hh hE ∧ h12.next ≤ hE.next ∧ Entry Tryz.prog hE) (TL := [(10, .int .i64 i), (9, .pointer (some ⟨loc h 1, 0, none⟩)), (8, .bool false), (4, .pointer (some ⟨loc h 0, 0, none⟩)), (1, .func (.func 5) #[] #[]), (2, .func (.func 6) #[] #[]), (3, .slice (some ⟨cb, 0, none⟩) gs.length cc), (11, .pointer (some ⟨loc h3 0, 0, none⟩)), (14, .pointer (some ⟨loc h5 1, 0, none⟩)), (15, .pointer (some ⟨loc h5 2, 0, none⟩))]) ?_ ?_
                                · cases ob with
                                  | none =>
                                    cases R12
                                    ((repeat refine CWp.seq ?_); refine CWp.region ?_)
                                    repeat (first | refine RL.w good ?_ | refine RL.k ?_)
                                    refine RL.nil ?_
                                    (try simp (disch := omega) only [qR])
                                    ((repeat refine CWp.seq ?_); refine CWp.block ?_)
                                    refine CWp.loopR (α := Unit) (fun _ => (tl [(17, .int .i64 0), (12, .slice none 0 0), (10, .int .i64 i), (9, .pointer (some ⟨loc h 1, 0, none⟩)), (8, .bool false), (4, .pointer (some ⟨loc h 0, 0, none⟩)), (1, .func (.func 5) #[] #[]), (2, .func (.func 6) #[] #[]), (3, .slice (some ⟨cb, 0, none⟩) gs.length cc), (11, .pointer (some ⟨loc h3 0, 0, none⟩)), (14, .pointer (some ⟨loc h5 1, 0, none⟩)), (15, .pointer (some ⟨loc h5 2, 0, none⟩))], h12)) (fun _ => 0) (fun _ => True) () trivial ?_ rfl ?_
                                    · exact tl_less (by simp [lk])
                                    · intro _ _
                                      ((repeat refine CWp.seq ?_); refine CWp.region ?_)
                                      repeat (first | refine RL.w good ?_ | refine RL.k ?_)
                                      refine RL.nil ?_
                                      (try simp (disch := omega) only [qR])
                                      ((repeat refine CWp.seq ?_); refine CWp.cnd good ?_ ?_)
                                      · intro hc; cases hc
                                      · intro _
                                        (refine CWp.exit ?_; (try simp (disch := omega) only [qR]))
                                        exact ⟨tl_less (by simp [lk]), T12, ⟨_, eb12⟩, ec12, x012, Nat.le_refl _, En12⟩
                                  | some p =>
                                    obtain ⟨nsr, ssr⟩ := p
                                    obtain ⟨lb, gg, t, b, rfl, r2, r3, ⟨rol, ell, r4⟩, r5, r6, r7⟩ := id R12
                                    ((repeat refine CWp.seq ?_); refine CWp.region ?_)
                                    repeat (first | refine RL.w good ?_ | refine RL.k ?_)
                                    refine RL.nil ?_
                                    (try simp (disch := omega) only [qR])
                                    ((repeat refine CWp.seq ?_); refine CWp.block ?_)
                                    refine CWp.loopR (α := Nat × Hp) (fun s => (tl [(17, .int .i64 s.1), (12, .slice (some ⟨lb, 0, none⟩) 1 1), (10, .int .i64 i), (9, .pointer (some ⟨loc h 1, 0, none⟩)), (8, .bool false), (4, .pointer (some ⟨loc h 0, 0, none⟩)), (1, .func (.func 5) #[] #[]), (2, .func (.func 6) #[] #[]), (3, .slice (some ⟨cb, 0, none⟩) gs.length cc), (11, .pointer (some ⟨loc h3 0, 0, none⟩)), (14, .pointer (some ⟨loc h5 1, 0, none⟩)), (15, .pointer (some ⟨loc h5 2, 0, none⟩))], s.2)) (fun s => 1 - s.1) (fun s => (s.1 = 0 ∧ s.2 = h12) ∨ (s.1 = 1 ∧ Thing s.2 tTr (loc h3 0) (fun x => hh.next ≤ x ∧ x < loc h3 1) ns12 ss12 ∧ (∃ atb, Eye 58 3 9 s.2 (loc h5 1) (fun x => x = loc h5 1 ∨ (h11.next ≤ x ∧ x < h12.next)) ns12 ss12 false atb) ∧ Eye 58 3 9 s.2 (loc h5 2) (fun x => x = loc h5 2) [] [] false 0 ∧ Ext hh s.2 ∧ h12.next ≤ s.2.next ∧ Entry Tryz.prog s.2)) (0, h12) (.inl ⟨rfl, rfl⟩) ?_ rfl ?_
                                    · exact tl_less (by simp [lk])
                                    · rintro ⟨k, hk⟩ hs
                                      rcases hs with ⟨h0, e⟩ | ⟨h0, J⟩
                                      · simp only at h0 e ⊢
                                        subst h0 e
                                        ((repeat refine CWp.seq ?_); refine CWp.region ?_)
                                        repeat (first | refine RL.w good ?_ | refine RL.k ?_)
                                        refine RL.nil ?_
                                        (try simp (disch := omega) only [qR])
                                        ((repeat refine CWp.seq ?_); refine CWp.cnd good ?_ ?_)
                                        · intro _
                                          (refine CWp.skip ?_; (try simp (disch := omega) only [qR]))
                                          ((repeat refine CWp.seq ?_); refine CWp.block ?_)
                                          ((repeat refine CWp.seq ?_); refine CWp.region ?_)
                                          repeat (first | refine RL.w good ?_ | refine RL.k ?_)
                                          (refine' RL.c good ?_ ?_ ?_; rotate_left)
                                          · exact lookStep (ob := some (nsr, ssr)) R12 (by omega)
                                          · rintro v h13 ⟨⟨w, e, l13, x13⟩, En13⟩
                                            cases e
                                            obtain ⟨ebk, atk, rfl, _⟩ := l13
                                            have hn13 := x13.1
                                            have T13 := T12.kp (x13.kp (fun _ => False)) (fun x hx => ⟨by omega, id⟩)
                                            have eb13 := eb12.kp (x13.kp (fun _ => False)) (fun _ _ => id)
                                            have ec13 := ec12.kp (x13.kp (fun _ => False)) (fun _ _ => id)
                                            have r13 := r7.kp (x13.kp (fun _ => False)) (fun x hx => ⟨by omega, id⟩)
                                            have gl13 := (x13.2 lb (by omega)).trans r4
                                            have bl13 : lb < h13.next := by omega
                                            have x013 := x012.trans x13
                                            rw [← ov_self En13.lt]
                                            repeat (first | refine RL.w good ?_ | refine RL.k ?_)
                                            refine RL.nil ?_
                                            (try simp (disch := omega) only [qR])
                                            ((repeat refine CWp.seq ?_); refine CWp.region ?_)
                                            repeat (first | refine RL.w good ?_ | refine RL.k ?_)
                                            have hl13 : h13.next ≤ loc h13 0 ∧ loc h13 0 < h13.next + 1 := by unfold loc; omega
                                            generalize h14e : Ab.ov h13 [] [(0, .cells [.slice none 0 0, .slice none 0 0, .bool true, .int .i64 (1000000 * 1)] false 58)] 1 = h14
                                            have hn14 : h14.next = h13.next + 1 := by rw [← h14e, ov_next]; unfold loc; rfl
                                            have x14 : Ext h13 h14 := h14e ▸ .ov
                                            have em : Eye 58 3 9 h14 (loc h13 0) (fun x => x = loc h13 0) [] [] true (1000000 * 1) := h14e ▸ .fresh (by decide) rfl rfl
                                            clear h14e
                                            have T14 := T13.kp (x14.kp (fun _ => False)) (fun x hx => ⟨by omega, id⟩)
                                            have eb14 := eb13.kp (x14.kp (fun _ => False)) (fun _ _ => id)
                                            have ec14 := ec13.kp (x14.kp (fun _ => False)) (fun _ _ => id)
                                            have r14 := r13.kp (x14.kp (fun _ => False)) (fun x hx => ⟨by omega, id⟩)
                                            have gl14 := (x14.2 lb (by omega)).trans gl13
                                            have x014 := x013.trans x14
                                            (apply RL.call good; (· (first | exact rfl | (simp only [push_cast, reduceIte, Nat.reduceEqDiff, *]; done) | (simp only [push_cast, reduceIte, Nat.reduceEqDiff, *]; exact rfl))); (· exact rfl); (· exact rfl); (· (simp (disch := omega) only [push_cast, reduceIte, Nat.reduceEqDiff, beq_self_eq_true, bne_self_eq_false, Int.reduceBEq, Int.reduceBNe, Int.reduceLT, Int.reduceLE, Nat.reduceAdd, Nat.reduceMul, Nat.reduceSub, Int.reduceToNat, Nat.reducePow, Int.reducePow, *] <;> exact rfl)); (· exact r5); (· (simp (disch := omega) only [push_cast, reduceIte, Nat.reduceEqDiff, beq_self_eq_true, bne_self_eq_false, Int.reduceBEq, Int.reduceBNe, Int.reduceLT, Int.reduceLE, Nat.reduceAdd, Nat.reduceMul, Nat.reduceSub, Int.reduceToNat, Nat.reducePow, Int.reducePow, *] <;> exact rfl)))
                                            · exact r6.step r14 em (fun x hx => by omega) (by decide)
                                            · rintro v h15 ⟨⟨e, nsx, ssx, atx, _, r15, _, k15⟩, En15⟩
                                              cases e
                                              have hn15 := k15.1
                                              have T15 := T14.kp k15 (fun x hx => by omega)
                                              have eb15 := eb14.kp k15 (fun x hx => by omega)
                                              have ec15 := ec14.kp k15 (fun x hx => by omega)
                                              have gl15 := (k15.2 lb (by omega) (by omega)).trans gl14
                                              have x015 := k15.ext x014 (fun x hx => by omega)
                                              have R15 : Res (h3.next + 1) h5.next h15 (.slice (some ⟨lb, 0, none⟩) 1 1) (some (nsx, ssx)) := ⟨lb, gg, t, b, rfl, r2, r3, ⟨rol, ell, gl15⟩, r5, r6, r15⟩
                                              refine RL.nil ?_
                                              (try simp (disch := omega) only [qR])
                                              ((repeat refine CWp.seq ?_); refine CWp.region ?_)
                                              repeat (first | refine RL.w good ?_ | refine RL.k ?_)
                                              (refine' RL.c good ?_ ?_ ?_; rotate_left)
                                              · exact lookStep R15 (by omega)
                                              · rintro v h16 ⟨⟨w2, e, l16, x16⟩, En16⟩
                                                cases e
                                                repeat (first | refine RL.w good ?_ | refine RL.k ?_)
                                                (refine' RL.c good ?_ ?_ ?_; rotate_left)
                                                · exact f37s h16 _ _ _
                                                · rintro v hz ⟨e, e2⟩
                                                  cases e
                                                  rw [e2]
                                                  repeat (first | refine RL.w good ?_ | refine RL.k ?_)
                                                  refine RL.nil ?_
                                                  (try simp (disch := omega) only [qR])
                                                  ((repeat refine CWp.seq ?_); refine CWp.cnd good ?_ ?_)
                                                  · intro hc; cases hc
                                                  · intro _
                                                    (refine CWp.skip ?_; (try simp (disch := omega) only [qR]))
                                                    ((repeat refine CWp.seq ?_); refine CWp.region ?_)
                                                    repeat (first | refine RL.w good ?_ | refine RL.k ?_)
                                                    refine RL.nil ?_
                                                    (try simp (disch := omega) only [qR])
                                                    refine ⟨(1, h16), .inr ⟨rfl, T15.kp (x16.kp (fun _ => False)) (fun x hx => ⟨by omega, id⟩), ⟨_, eb15.kp (x16.kp (fun _ => False)) (fun _ _ => id)⟩, ec15.kp (x16.kp (fun _ => False)) (fun _ _ => id), x015.trans x16, by have := x16.1; simp only; omega, En16⟩, by simp, tl_less (by simp [lk]), by trivial⟩
                                                · rintro v h2 ⟨e, _⟩; cases e
                                              · rintro v h2 ⟨⟨w, e, _⟩, _⟩; cases e
                                            · rintro v h2 ⟨⟨e, _⟩, _⟩; cases e
                                          · rintro v h2 ⟨⟨w, e, _⟩, _⟩; cases e
                                        · intro hc; cases hc
                                      · simp only at h0 J ⊢
                                        subst h0
                                        ((repeat refine CWp.seq ?_); refine CWp.region ?_)
                                        repeat (first | refine RL.w good ?_ | refine RL.k ?_)
                                        refine RL.nil ?_
                                        (try simp (disch := omega) only [qR])
                                        ((repeat refine CWp.seq ?_); refine CWp.cnd good ?_ ?_)
                                        · intro hc; cases hc
                                        · intro _
                                          (refine CWp.exit ?_; (try simp (disch := omega) only [qR]))
                                          exact ⟨tl_less (by simp [lk]), J⟩
                                · rintro hE ⟨TE, ⟨atb, ebE⟩, ecE, xE, hnE, EnE⟩
                                  ((repeat refine CWp.seq ?_); refine CWp.region ?_)
                                  repeat (first | refine RL.w good ?_ | refine RL.k ?_)
                                  (refine' RL.c good ?_ ?_ ?_; rotate_left)
                                  · exact f6s.step TE ecE (fun x hx => by omega) (by decide)
                                  · rintro v hF ⟨⟨e, nsF, ssF, atF, ecF, TF, qF, kF⟩, EnF⟩
                                    cases e
                                    obtain ⟨rfl, rfl⟩ := qF rfl
                                    have kF : Kp (fun x => x = loc h5 2) hE hF := ⟨kF.1, fun j hj hx => kF.2 j hj fun q => by rcases q with q | ⟨q, _⟩; exact hx q; cases q⟩
                                    have ebF := ebE.kp kF (fun x hx => by omega)
                                    have xF := kF.ext xE (fun x hx => by omega)
                                    obtain ⟨nva, sva, nvb, svb, ga, gb, la, lb, sa, sb, sc, sd, KS⟩ := Eye.same ebF ecF TF.ln TF.ls
                                    obtain ⟨_, _, _, rfl⟩ := sa
                                    obtain ⟨_, _, _, rfl⟩ := sb
                                    obtain ⟨_, _, _, rfl⟩ := sc
                                    obtain ⟨_, _, _, rfl⟩ := sd
                                    clear ebE ecE ebF ecF TE
                                    rw [← ov_self EnF.lt]
                                    refine RL.nil ?_
                                    (try simp (disch := omega) only [qR])
                                    ((repeat refine CWp.seq ?_); refine CWp.region ?_)
                                    repeat (first | refine RL.w good ?_ | refine RL.k ?_)
                                    (refine' RL.c good ?_ ?_ ?_; rotate_left)
                                    · rw [ov_self EnF.lt]; exact KS
                                    · rintro v hz ⟨e, e2⟩
                                      cases e
                                      rw [e2]
                                      clear e2 KS ga gb
                                      repeat (first | refine RL.w good ?_ | refine RL.k ?_)
                                      refine RL.nil ?_
                                      (try simp (disch := omega) only [qR])
                                      ((repeat refine CWp.seq ?_); refine CWp.cnd good ?_ ?_)
                                      · intro hc; cases hc
                                      · intro _
                                        (refine CWp.skip ?_; (try simp (disch := omega) only [qR]))
                                        ((repeat refine CWp.seq ?_); refine CWp.region ?_)
                                        repeat (first | refine RL.w good ?_ | refine RL.k ?_)
                                        refine RL.nil ?_
                                        (try simp (disch := omega) only [qR])
                                        refine ⟨(i + 1, hF), ⟨hin, xh.trans xF⟩, by simp only; omega, tl_less (by simp [lk]), by trivial⟩
                                    · rintro v h2 ⟨e, _⟩; cases e
                                  · rintro v h2 ⟨⟨e, _⟩, _⟩; cases e
                              · rintro v h2 ⟨⟨e, _⟩, _⟩; cases e
                          · rintro v h2 ⟨e, _⟩; cases e
                        · rintro v h2 ⟨⟨w, e, _⟩, _⟩; cases e
                      · rintro v h2 ⟨e, _⟩; cases e
                    · rintro v h2 ⟨⟨e, _⟩, _⟩; cases e
                  · rintro v h2 ⟨⟨w, e, _⟩, _⟩; cases e
                · rintro v h2 ⟨⟨e, _⟩, _⟩; cases e
              · rintro v h2 ⟨⟨cv, e, _⟩, _⟩; cases e
            · rintro v h2 ⟨⟨cv, sv, e, _⟩, _⟩; cases e
          · (intro hc; (try simp only [decide_eq_true_eq, decide_eq_false_iff_not, Bool.not_eq_true, Bool.not_eq_false, Int.not_lt, Int.not_le, bne_iff_ne, beq_iff_eq, ne_eq, Bool.not_eq_eq_eq_not, Bool.not_true, Bool.not_false] at hc))
            (refine CWp.exit ?_; (try simp (disch := omega) only [qR]))
            ((repeat refine CWp.seq ?_); refine CWp.region ?_)
            repeat (first | refine RL.w good ?_ | refine RL.k ?_)
            refine RL.nil ?_
            (try simp (disch := omega) only [qR])
            (refine CWp.ret ?_; (try simp (disch := omega) only [qR]); refine rtQ ?_; (try simp only [oneV]))
            exact ⟨by trivial, x2.trans xh⟩
    · rintro v h' ⟨⟨t, e, _⟩, _⟩; cases e
  · rintro v h2 ⟨p2, _⟩; cases p2.1
end Go.Ab
namespace Go.Ab
open Go.Proofs
set_option maxRecDepth 10000
attribute [local push_cast] ldN_lowU ov_low takeN_one Option.toList_some Nat.mul_one Nat.add_zero Nat.zero_add goIntI Int.zero_add wrap1
def gs1 : List FuncId := [7, 9, 13, 15, 19, 22, 25, 28, 30]
theorem gs1_ok : ∀ g ∈ gs1, Enters Tryz.prog g ∧ CallOK g := by
  intro g hg
  simp only [gs1, List.mem_cons, List.not_mem_nil, or_false] at hg
  rcases hg with rfl | rfl | rfl | rfl | rfl | rfl | rfl | rfl | rfl
  · exact ⟨en (by kernel_rfl), f7s⟩
  · exact ⟨en (by kernel_rfl), f9s⟩
  · exact ⟨en (by kernel_rfl), f13s⟩
  · exact ⟨en (by kernel_rfl), f15s⟩
  · exact ⟨en (by kernel_rfl), f19s⟩
  · exact ⟨en (by kernel_rfl), f22s⟩
  · exact ⟨en (by kernel_rfl), f25s⟩
  · exact ⟨en (by kernel_rfl), f28s⟩
  · exact ⟨en (by kernel_rfl), f30s⟩
set_option maxHeartbeats 16000000 in
theorem f3s {h : Hp} {chV spV : Value} {ch sp : List Int} {n st p1 p2 : Int} (hch : IsInts h chV ch) (hsp : IsInts h spV sp) (hl : ch.length + sp.length ≤ 1048570)
    (AW : ∀ h', Ext h h' → ACalls Tryz.prog 33 [] (fun e _ => e = .ret (.bool true)) h') :
    ACalls Tryz.prog 3 [.agg #[chV, .int .i64 n, .int .i64 st, spV, .int .i64 p1, .int .i64 p2]] (fun e _ => e = .ret (.bool true)) h := by
  obtain ⟨a1, m1, c1, rfl⟩ := slV h chV ch hch
  obtain ⟨a2, m2, c2, rfl⟩ := slV h spV sp hsp
  (refine ACalls.bodyB (fn := Tryz.f3) (ng := 4) (N := 9) (res := [.tmp 2]) (by kernel_rfl) rfl rfl rfl (by kernel_rfl) (fun En hs => ?_); simp only [argsL, Nat.reduceAdd])
  clear hs
  ((repeat refine CWp.seq ?_); refine CWp.region ?_)
  repeat (first | refine RL.w good ?_ | refine RL.k ?_)
  refine RL.nil ?_
  (try simp (disch := omega) only [qR])
  ((repeat refine CWp.seq ?_); refine CWp.region ?_)
  repeat (first | refine RL.w good ?_ | refine RL.k ?_)
  (refine' RL.c good ?_ ?_ ?_; rotate_left)
  · exact f4s (gs := gs1) (hch.ext .ov) (hsp.ext .ov) hl (by rw [ov_next, loc_lt]; decide) (by rw [ov_loc]; rfl) gs1_ok (by decide)
  · rintro v h2 ⟨e, x2⟩
    cases e
    repeat (first | refine RL.w good ?_ | refine RL.k ?_)
    (refine' RL.c good ?_ ?_ ?_; rotate_left)
    · exact AW h2 (Ext.trans .ov x2)
    · rintro v h3 e
      cases e
      repeat (first | refine RL.w good ?_ | refine RL.k ?_)
      refine RL.nil ?_
      (try simp (disch := omega) only [qR])
      (refine CWp.ret ?_; (try simp (disch := omega) only [qR]); refine rtQ ?_; (try simp only [oneV]))
    · rintro v h3 e; cases e
  · rintro v h2 ⟨e, _⟩; cases e
end Go.Ab
