/- A part of the proof of a law over a given program: E1, E5. -/
import Derived.Test.YtckgcmgnpblnaaaGreatDoorT17
import Derived.Test.YtckgcmgnpblnaaaGreatDoorT22
import Derived.Test.YtckgcmgnpblnaaaGreatDoorT29
import Derived.Test.YtckgcmgnpblnaaaGreatDoorT30
import Derived.Test.YtckgcmgnpblnaaaGreatDoorT34
set_option linter.unusedVariables false
set_option linter.unusedSimpArgs false
namespace Go.Ab
open Go.Proofs
set_option maxRecDepth 10000
attribute [local push_cast] ldN_lowU ov_low takeN_one getD_set_self' Option.toList_some
structure ArgAt (h : Hp) (ba : Nat) (chV spV : Value) (ch sp : List Int) (n st p1 p2 : Int) : Prop where
  get : h.get ba = some (.cells [chV, .int .i64 n, .int .i64 st, spV, .int .i64 p1, .int .i64 p2] false 26)
  lt : ba < h.next
  ich : IsInts h chV ch
  isp : IsInts h spV sp
  chl : ch.length ≤ 1000000
  spl : sp.length ≤ 1000000
def CallOK (g : FuncId) : Prop := ∀ (h : Hp) (ba : Nat) (chV spV : Value) (ch sp : List Int) (n st p1 p2 : Int), ArgAt h ba chV spV ch sp n st p1 p2 →
  ACalls Tryz.prog g [.pointer (some ⟨ba, 0, none⟩)] (fun e h' => ∃ v, e = .ret v ∧ Ext h h' ∧ ResL Tryz.prog 58 3 9 h h' v) h
theorem slV (h : Hp) (v : Value) (l : List Int) (hv : IsInts h v l) : ∃ a n c, v = .slice a n c := by
  rcases hv.told with ⟨rfl, _⟩ | ⟨i, o, c, ob, ro, e, rfl, _⟩
  · exact ⟨_, _, _, rfl⟩
  · exact ⟨_, _, _, rfl⟩
theorem resNil {h : Hp} : ∃ v, AEnd.ret (.slice none 0 0) = .ret v ∧ Ext h h ∧ ResL Tryz.prog 58 3 9 h h v := ⟨_, rfl, .refl h, .inl rfl⟩
theorem made2 {h h1 : Hp} (En : Entry Tryz.prog h) {l : List Int} {v : Value} (m : MadeInts h l v h1) : (v = .slice none 0 0 ∧ l = [] ∧ h1 = Ab.ov h [] [] 0) ∨ ∃ c, v = .slice (some ⟨loc h 0, 0, none⟩) l.length c ∧ h1 = Ab.ov h [] [(0, .cells (Ab.ints l) false 3)] 1 ∧ CapOK c l.length 1 := by
  rcases m with ⟨a, b, rfl⟩ | m
  · exact .inl ⟨a, b, (ov_self En.lt).symm⟩
  · exact .inr m
theorem resThing {h : Hp} {L : List (Nat × AObj)} {k j jb : Nat} {gg : FuncId} {t : SeeTy} {ro : Bool} {el : Nat} (ent : Enters Tryz.prog gg) (K : SeeOK Tryz.prog 58 3 9 gg t) (hlb : lk L jb = some (.cells [.func (.func gg) #[] #[.pointer (some ⟨loc h j, 0, none⟩)]] ro el)) (hjb : jb < k)
    (th : ∃ ns ss, Thing (Ab.ov h [] L k) t (loc h j) (fun x => h.next ≤ x ∧ x < (Ab.ov h [] L k).next ∧ x ≠ loc h jb) ns ss) : ∃ v, AEnd.ret (.slice (some ⟨loc h jb, 0, none⟩) 1 1) = .ret v ∧ Ext h (Ab.ov h [] L k) ∧ ResL Tryz.prog 58 3 9 h (Ab.ov h [] L k) v := by
  obtain ⟨ns, ss, th⟩ := th
  exact ⟨_, rfl, .ov, .inr ⟨loc h jb, gg, t, loc h j, ns, ss, rfl, by unfold loc; omega, by rw [ov_next, loc_lt]; exact hjb, ⟨ro, el, by rw [ov_loc]; exact hlb⟩, ent, K, th⟩⟩
theorem newZ {h : Hp} {L : List (Nat × AObj)} {k j jb : Nat} (hj : j < k) (hne : j ≠ jb) : h.next ≤ loc h j ∧ loc h j < (Ab.ov h [] L k).next ∧ loc h j ≠ loc h jb := by
  refine ⟨by unfold loc; omega, by rw [ov_next, loc_lt]; exact hj, fun e => hne (loc_iff.1 e)⟩
theorem chainE_err {n : Int} {h h' : Hp} {e : AEnd} (q : chainE n h e h') : IntsErr h e h' := by
  unfold chainE at q
  cases hb : btw 1 n 46 with
  | false =>
    rw [hb] at q
    obtain ⟨rfl, rfl⟩ := q
    exact ⟨[], _, _, rfl, .inl ⟨rfl, rfl, rfl⟩, by simp⟩
  | true =>
    rw [hb] at q
    obtain ⟨v, rfl, q⟩ := q
    cases hf : first ⟨n, [], false⟩ with
    | none => rw [hf] at q; obtain ⟨rfl, rfl⟩ := q; exact ⟨[], _, _, rfl, .inl ⟨rfl, rfl, rfl⟩, by simp⟩
    | some l => rw [hf] at q; exact ⟨l, v, 0, rfl, q, by have := first_len hf; omega⟩
set_option maxHeartbeats 4000000 in
theorem f11s : SeeOK Tryz.prog 58 3 9 11 (.sl 2 pair2) := by
  refine SeeOK.of fun h b o be E n0 s0 ns ss m a0 A => ?_
  (refine ACalls.bodyB (fn := Tryz.f11) (ng := 4) (N := 5) (res := []) (by kernel_rfl) rfl rfl rfl (by kernel_rfl) (fun En hs => ?_); simp only [argsL, Nat.reduceAdd])
  clear hs
  rw [ov_self En.lt]
  ((repeat refine CWp.seq ?_); refine CWp.region ?_)
  repeat (first | refine RL.w good ?_ | refine RL.k ?_)
  (refine' RL.c good ?_ ?_ ?_; rotate_left)
  · exact f12s.calls A
  · rintro v h1 p1
    have e := p1.1
    cases e
    refine RL.nil ?_
    (try simp (disch := omega) only [qR])
    ((try simp (disch := omega) only [qR]); refine nmQ ?_; (try simp only [oneV]))
    exact p1
  · rintro v h2 p2; cases p2.1
set_option maxHeartbeats 4000000 in
theorem f7s : CallOK 7 := by
  intro h ba chV spV ch sp n st p1 p2 A
  obtain ⟨hg, hlt, hch, hsp, hl1, hl2⟩ := A
  obtain ⟨a1, m1, c1, rfl⟩ := slV h chV ch hch
  (refine ACalls.bodyB (fn := Tryz.f7) (ng := 4) (N := 8) (res := [.tmp 2]) (by kernel_rfl) rfl rfl rfl (by kernel_rfl) (fun En hs => ?_); simp only [argsL, Nat.reduceAdd])
  clear hs
  ((repeat refine CWp.seq ?_); refine CWp.region ?_)
  repeat (first | refine RL.w good ?_ | refine RL.k ?_)
  refine RL.nil ?_
  (try simp (disch := omega) only [qR])
  ((repeat refine CWp.seq ?_); refine CWp.region ?_)
  repeat (first | refine RL.w good ?_ | refine RL.k ?_)
  (refine' RL.c good ?_ ?_ ?_; rotate_left)
  · rw [ov_self En.lt]; exact f8s _ ch h hch hl1
  · rintro v h' ⟨m, e, _, rfl⟩
    cases e
    refine RL.nil ?_
    (try simp (disch := omega) only [qR])
    ((repeat refine CWp.seq ?_); refine CWp.region ?_)
    repeat (first | refine RL.w good ?_ | refine RL.k ?_)
    refine RL.nil ?_
    (try simp (disch := omega) only [qR])
    (refine CWp.ret ?_; (try simp (disch := omega) only [qR]); refine rtQ ?_; (try simp only [oneV]))
    exact resNil
  · rintro v h' ⟨n, e, _⟩; cases e
set_option maxHeartbeats 4000000 in
theorem f13s : CallOK 13 := by
  intro h ba chV spV ch sp n st p1 p2 A
  obtain ⟨hg, hlt, hch, hsp, hl1, hl2⟩ := A
  obtain ⟨a1, m1, c1, rfl⟩ := slV h chV ch hch
  (refine ACalls.bodyB (fn := Tryz.f13) (ng := 4) (N := 8) (res := [.tmp 2]) (by kernel_rfl) rfl rfl rfl (by kernel_rfl) (fun En hs => ?_); simp only [argsL, Nat.reduceAdd])
  clear hs
  ((repeat refine CWp.seq ?_); refine CWp.region ?_)
  repeat (first | refine RL.w good ?_ | refine RL.k ?_)
  refine RL.nil ?_
  (try simp (disch := omega) only [qR])
  ((repeat refine CWp.seq ?_); refine CWp.region ?_)
  repeat (first | refine RL.w good ?_ | refine RL.k ?_)
  (refine' RL.c good ?_ ?_ ?_; rotate_left)
  · rw [ov_self En.lt]; exact f14s _ ch h hch hl1
  · rintro v h' ⟨b, m, e, rfl⟩
    cases e
    refine RL.nil ?_
    (try simp (disch := omega) only [qR])
    ((repeat refine CWp.seq ?_); refine CWp.region ?_)
    repeat (first | refine RL.w good ?_ | refine RL.k ?_)
    refine RL.nil ?_
    (try simp (disch := omega) only [qR])
    (refine CWp.ret ?_; (try simp (disch := omega) only [qR]); refine rtQ ?_; (try simp only [oneV]))
    exact resNil
  · rintro v h' ⟨_, n, e, _⟩; cases e
set_option maxHeartbeats 4000000 in
theorem f17s : SeeOK Tryz.prog 58 3 9 17 (.sl 1 .int) := by
  refine SeeOK.of fun h b o be E n0 s0 ns ss m a0 A => ?_
  (refine ACalls.bodyB (fn := Tryz.f17) (ng := 4) (N := 5) (res := []) (by kernel_rfl) rfl rfl rfl (by kernel_rfl) (fun En hs => ?_); simp only [argsL, Nat.reduceAdd])
  clear hs
  rw [ov_self En.lt]
  ((repeat refine CWp.seq ?_); refine CWp.region ?_)
  repeat (first | refine RL.w good ?_ | refine RL.k ?_)
  (refine' RL.c good ?_ ?_ ?_; rotate_left)
  · exact f18s.calls A
  · rintro v h1 p1
    have e := p1.1
    cases e
    refine RL.nil ?_
    (try simp (disch := omega) only [qR])
    ((try simp (disch := omega) only [qR]); refine nmQ ?_; (try simp only [oneV]))
    exact p1
  · rintro v h2 p2; cases p2.1
set_option maxHeartbeats 4000000 in
theorem f21s : SeeOK Tryz.prog 58 3 9 21 (.sl 1 .int) := by
  refine SeeOK.of fun h b o be E n0 s0 ns ss m a0 A => ?_
  (refine ACalls.bodyB (fn := Tryz.f21) (ng := 4) (N := 5) (res := []) (by kernel_rfl) rfl rfl rfl (by kernel_rfl) (fun En hs => ?_); simp only [argsL, Nat.reduceAdd])
  clear hs
  rw [ov_self En.lt]
  ((repeat refine CWp.seq ?_); refine CWp.region ?_)
  repeat (first | refine RL.w good ?_ | refine RL.k ?_)
  (refine' RL.c good ?_ ?_ ?_; rotate_left)
  · exact f18s.calls A
  · rintro v h1 p1
    have e := p1.1
    cases e
    refine RL.nil ?_
    (try simp (disch := omega) only [qR])
    ((try simp (disch := omega) only [qR]); refine nmQ ?_; (try simp only [oneV]))
    exact p1
  · rintro v h2 p2; cases p2.1
set_option maxHeartbeats 4000000 in
theorem f24s : SeeOK Tryz.prog 58 3 9 24 (.sl 1 .int) := by
  refine SeeOK.of fun h b o be E n0 s0 ns ss m a0 A => ?_
  (refine ACalls.bodyB (fn := Tryz.f24) (ng := 4) (N := 5) (res := []) (by kernel_rfl) rfl rfl rfl (by kernel_rfl) (fun En hs => ?_); simp only [argsL, Nat.reduceAdd])
  clear hs
  rw [ov_self En.lt]
  ((repeat refine CWp.seq ?_); refine CWp.region ?_)
  repeat (first | refine RL.w good ?_ | refine RL.k ?_)
  (refine' RL.c good ?_ ?_ ?_; rotate_left)
  · exact f18s.calls A
  · rintro v h1 p1
    have e := p1.1
    cases e
    refine RL.nil ?_
    (try simp (disch := omega) only [qR])
    ((try simp (disch := omega) only [qR]); refine nmQ ?_; (try simp only [oneV]))
    exact p1
  · rintro v h2 p2; cases p2.1
set_option maxHeartbeats 4000000 in
theorem f27s : SeeOK Tryz.prog 58 3 9 27 (.sl 1 .int) := by
  refine SeeOK.of fun h b o be E n0 s0 ns ss m a0 A => ?_
  (refine ACalls.bodyB (fn := Tryz.f27) (ng := 4) (N := 5) (res := []) (by kernel_rfl) rfl rfl rfl (by kernel_rfl) (fun En hs => ?_); simp only [argsL, Nat.reduceAdd])
  clear hs
  rw [ov_self En.lt]
  ((repeat refine CWp.seq ?_); refine CWp.region ?_)
  repeat (first | refine RL.w good ?_ | refine RL.k ?_)
  (refine' RL.c good ?_ ?_ ?_; rotate_left)
  · exact f18s.calls A
  · rintro v h1 p1
    have e := p1.1
    cases e
    refine RL.nil ?_
    (try simp (disch := omega) only [qR])
    ((try simp (disch := omega) only [qR]); refine nmQ ?_; (try simp only [oneV]))
    exact p1
  · rintro v h2 p2; cases p2.1
set_option maxHeartbeats 4000000 in
theorem f32s : SeeOK Tryz.prog 58 3 9 32 (.sl 1 .int) := by
  refine SeeOK.of fun h b o be E n0 s0 ns ss m a0 A => ?_
  (refine ACalls.bodyB (fn := Tryz.f32) (ng := 4) (N := 5) (res := []) (by kernel_rfl) rfl rfl rfl (by kernel_rfl) (fun En hs => ?_); simp only [argsL, Nat.reduceAdd])
  clear hs
  rw [ov_self En.lt]
  ((repeat refine CWp.seq ?_); refine CWp.region ?_)
  repeat (first | refine RL.w good ?_ | refine RL.k ?_)
  (refine' RL.c good ?_ ?_ ?_; rotate_left)
  · exact f18s.calls A
  · rintro v h1 p1
    have e := p1.1
    cases e
    refine RL.nil ?_
    (try simp (disch := omega) only [qR])
    ((try simp (disch := omega) only [qR]); refine nmQ ?_; (try simp only [oneV]))
    exact p1
  · rintro v h2 p2; cases p2.1
set_option maxHeartbeats 4000000 in
theorem f15s : CallOK 15 := by
  intro h ba chV spV ch sp n st p1 p2 A
  obtain ⟨hg, hlt, hch, hsp, hl1, hl2⟩ := A
  (refine ACalls.bodyB (fn := Tryz.f15) (ng := 4) (N := 15) (res := [.tmp 2]) (by kernel_rfl) rfl rfl rfl (by kernel_rfl) (fun En hs => ?_); simp only [argsL, Nat.reduceAdd])
  clear hs
  ((repeat refine CWp.seq ?_); refine CWp.region ?_)
  repeat (first | refine RL.w good ?_ | refine RL.k ?_)
  refine RL.nil ?_
  (try simp (disch := omega) only [qR])
  ((repeat refine CWp.seq ?_); refine CWp.region ?_)
  repeat (first | refine RL.w good ?_ | refine RL.k ?_)
  (refine' RL.c good ?_ ?_ ?_; rotate_left)
  · rw [ov_self En.lt]; exact f16s n h
  · rintro v h' q
    obtain ⟨l, w, n2, e, m, hl⟩ := chainE_err q
    cases e
    rcases made2 En m with ⟨rfl, rfl, rfl⟩ | ⟨c, rfl, rfl, hc⟩
    · repeat (first | refine RL.w good ?_ | refine RL.k ?_)
      refine RL.nil ?_
      (try simp (disch := omega) only [qR])
      ((repeat refine CWp.seq ?_); refine CWp.region ?_)
      repeat (first | refine RL.w good ?_ | refine RL.k ?_)
      refine RL.nil ?_
      (try simp (disch := omega) only [qR])
      (refine CWp.ret ?_; (try simp (disch := omega) only [qR]); refine rtQ ?_; (try simp only [oneV]))
      refine resThing (j := 0) (jb := 1) (en (by kernel_rfl)) f17s rfl (by decide) (thing_ints (l := []) rfl (newZ (by decide) (by decide)) (by simp) (.inl ⟨rfl, rfl⟩))
    · repeat (first | refine RL.w good ?_ | refine RL.k ?_)
      refine RL.nil ?_
      (try simp (disch := omega) only [qR])
      ((repeat refine CWp.seq ?_); refine CWp.region ?_)
      repeat (first | refine RL.w good ?_ | refine RL.k ?_)
      refine RL.nil ?_
      (try simp (disch := omega) only [qR])
      (refine CWp.ret ?_; (try simp (disch := omega) only [qR]); refine rtQ ?_; (try simp only [oneV]))
      refine resThing (j := 1) (jb := 2) (en (by kernel_rfl)) f17s rfl (by decide) (thing_ints (l := l) rfl (newZ (by decide) (by decide)) hl (.inr ⟨0, c, _, rfl, rfl, by decide, newZ (by decide) (by decide), by decide, hc⟩))
  · rintro v h' q
    obtain ⟨l, w, n2, e, m, hl⟩ := chainE_err q
    cases e
set_option maxHeartbeats 4000000 in
theorem f19s : CallOK 19 := by
  intro h ba chV spV ch sp n st p1 p2 A
  obtain ⟨hg, hlt, hch, hsp, hl1, hl2⟩ := A
  (refine ACalls.bodyB (fn := Tryz.f19) (ng := 4) (N := 15) (res := [.tmp 2]) (by kernel_rfl) rfl rfl rfl (by kernel_rfl) (fun En hs => ?_); simp only [argsL, Nat.reduceAdd])
  clear hs
  ((repeat refine CWp.seq ?_); refine CWp.region ?_)
  repeat (first | refine RL.w good ?_ | refine RL.k ?_)
  refine RL.nil ?_
  (try simp (disch := omega) only [qR])
  ((repeat refine CWp.seq ?_); refine CWp.region ?_)
  repeat (first | refine RL.w good ?_ | refine RL.k ?_)
  (refine' RL.c good ?_ ?_ ?_; rotate_left)
  · rw [ov_self En.lt]; exact f20s n h
  · rintro v h' q
    obtain ⟨l, w, n2, e, m, hl⟩ := id q
    cases e
    rcases made2 En m with ⟨rfl, rfl, rfl⟩ | ⟨c, rfl, rfl, hc⟩
    · repeat (first | refine RL.w good ?_ | refine RL.k ?_)
      refine RL.nil ?_
      (try simp (disch := omega) only [qR])
      ((repeat refine CWp.seq ?_); refine CWp.region ?_)
      repeat (first | refine RL.w good ?_ | refine RL.k ?_)
      refine RL.nil ?_
      (try simp (disch := omega) only [qR])
      (refine CWp.ret ?_; (try simp (disch := omega) only [qR]); refine rtQ ?_; (try simp only [oneV]))
      refine resThing (j := 0) (jb := 1) (en (by kernel_rfl)) f21s rfl (by decide) (thing_ints (l := []) rfl (newZ (by decide) (by decide)) (by simp) (.inl ⟨rfl, rfl⟩))
    · repeat (first | refine RL.w good ?_ | refine RL.k ?_)
      refine RL.nil ?_
      (try simp (disch := omega) only [qR])
      ((repeat refine CWp.seq ?_); refine CWp.region ?_)
      repeat (first | refine RL.w good ?_ | refine RL.k ?_)
      refine RL.nil ?_
      (try simp (disch := omega) only [qR])
      (refine CWp.ret ?_; (try simp (disch := omega) only [qR]); refine rtQ ?_; (try simp only [oneV]))
      refine resThing (j := 1) (jb := 2) (en (by kernel_rfl)) f21s rfl (by decide) (thing_ints (l := l) rfl (newZ (by decide) (by decide)) hl (.inr ⟨0, c, _, rfl, rfl, by decide, newZ (by decide) (by decide), by decide, hc⟩))
  · rintro v h' q
    obtain ⟨l, w, n2, e, m, hl⟩ := id q
    cases e
set_option maxHeartbeats 4000000 in
theorem f22s : CallOK 22 := by
  intro h ba chV spV ch sp n st p1 p2 A
  obtain ⟨hg, hlt, hch, hsp, hl1, hl2⟩ := A
  (refine ACalls.bodyB (fn := Tryz.f22) (ng := 4) (N := 15) (res := [.tmp 2]) (by kernel_rfl) rfl rfl rfl (by kernel_rfl) (fun En hs => ?_); simp only [argsL, Nat.reduceAdd])
  clear hs
  ((repeat refine CWp.seq ?_); refine CWp.region ?_)
  repeat (first | refine RL.w good ?_ | refine RL.k ?_)
  refine RL.nil ?_
  (try simp (disch := omega) only [qR])
  ((repeat refine CWp.seq ?_); refine CWp.region ?_)
  repeat (first | refine RL.w good ?_ | refine RL.k ?_)
  (refine' RL.c good ?_ ?_ ?_; rotate_left)
  · rw [ov_self En.lt]; exact f23s st h
  · rintro v h' q
    obtain ⟨l, w, n2, e, m, hl⟩ := id q
    cases e
    rcases made2 En m with ⟨rfl, rfl, rfl⟩ | ⟨c, rfl, rfl, hc⟩
    · repeat (first | refine RL.w good ?_ | refine RL.k ?_)
      refine RL.nil ?_
      (try simp (disch := omega) only [qR])
      ((repeat refine CWp.seq ?_); refine CWp.region ?_)
      repeat (first | refine RL.w good ?_ | refine RL.k ?_)
      refine RL.nil ?_
      (try simp (disch := omega) only [qR])
      (refine CWp.ret ?_; (try simp (disch := omega) only [qR]); refine rtQ ?_; (try simp only [oneV]))
      refine resThing (j := 0) (jb := 1) (en (by kernel_rfl)) f24s rfl (by decide) (thing_ints (l := []) rfl (newZ (by decide) (by decide)) (by simp) (.inl ⟨rfl, rfl⟩))
    · repeat (first | refine RL.w good ?_ | refine RL.k ?_)
      refine RL.nil ?_
      (try simp (disch := omega) only [qR])
      ((repeat refine CWp.seq ?_); refine CWp.region ?_)
      repeat (first | refine RL.w good ?_ | refine RL.k ?_)
      refine RL.nil ?_
      (try simp (disch := omega) only [qR])
      (refine CWp.ret ?_; (try simp (disch := omega) only [qR]); refine rtQ ?_; (try simp only [oneV]))
      refine resThing (j := 1) (jb := 2) (en (by kernel_rfl)) f24s rfl (by decide) (thing_ints (l := l) rfl (newZ (by decide) (by decide)) hl (.inr ⟨0, c, _, rfl, rfl, by decide, newZ (by decide) (by decide), by decide, hc⟩))
  · rintro v h' q
    obtain ⟨l, w, n2, e, m, hl⟩ := id q
    cases e
theorem pairs2 {h h1 : Hp} (En : Entry Tryz.prog h) {l : List Int} {n : Nat} {v : Value} (m : MadeRows 69 2 h l n v h1) : l.length = n * 2 ∧ ((v = .slice none 0 0 ∧ n = 0 ∧ h1 = Ab.ov h [] [] 0) ∨ ∃ c, v = .slice (some ⟨loc h 0, 0, none⟩) n c ∧ h1 = Ab.ov h [] [(0, .cells (Ab.ints l) false 69)] 1) := by
  obtain ⟨hl, ⟨a, b, rfl⟩ | ⟨c, a, b, _⟩⟩ := m
  · exact ⟨hl, .inl ⟨a, b, (ov_self En.lt).symm⟩⟩
  · exact ⟨hl, .inr ⟨c, a, b⟩⟩
set_option maxHeartbeats 4000000 in
theorem f9s : CallOK 9 := by
  intro h ba chV spV ch sp n st p1 p2 A
  obtain ⟨hg, hlt, hch, hsp, hl1, hl2⟩ := A
  obtain ⟨a1, m1, c1, rfl⟩ := slV h chV ch hch
  (refine ACalls.bodyB (fn := Tryz.f9) (ng := 4) (N := 15) (res := [.tmp 2]) (by kernel_rfl) rfl rfl rfl (by kernel_rfl) (fun En hs => ?_); simp only [argsL, Nat.reduceAdd])
  clear hs
  ((repeat refine CWp.seq ?_); refine CWp.region ?_)
  repeat (first | refine RL.w good ?_ | refine RL.k ?_)
  refine RL.nil ?_
  (try simp (disch := omega) only [qR])
  ((repeat refine CWp.seq ?_); refine CWp.region ?_)
  repeat (first | refine RL.w good ?_ | refine RL.k ?_)
  (refine' RL.c good ?_ ?_ ?_; rotate_left)
  · rw [ov_self En.lt]; exact f10s _ ch h hch hl1
  · rintro v h' q
    obtain ⟨l, w, vv, n2, e, m, hl⟩ := q
    cases e
    obtain ⟨hll, ⟨rfl, rfl, rfl⟩ | ⟨c, rfl, rfl⟩⟩ := pairs2 En m
    · repeat (first | refine RL.w good ?_ | refine RL.k ?_)
      refine RL.nil ?_
      (try simp (disch := omega) only [qR])
      ((repeat refine CWp.seq ?_); refine CWp.region ?_)
      repeat (first | refine RL.w good ?_ | refine RL.k ?_)
      refine RL.nil ?_
      (try simp (disch := omega) only [qR])
      (refine CWp.ret ?_; (try simp (disch := omega) only [qR]); refine rtQ ?_; (try simp only [oneV]))
      refine resThing (j := 0) (jb := 1) (en (by kernel_rfl)) f11s rfl (by decide) (thing_pairs (l := l) rfl (newZ (by decide) (by decide)) hl hll (.inl ⟨rfl, rfl⟩))
    · repeat (first | refine RL.w good ?_ | refine RL.k ?_)
      refine RL.nil ?_
      (try simp (disch := omega) only [qR])
      ((repeat refine CWp.seq ?_); refine CWp.region ?_)
      repeat (first | refine RL.w good ?_ | refine RL.k ?_)
      refine RL.nil ?_
      (try simp (disch := omega) only [qR])
      (refine CWp.ret ?_; (try simp (disch := omega) only [qR]); refine rtQ ?_; (try simp only [oneV]))
      refine resThing (j := 1) (jb := 2) (en (by kernel_rfl)) f11s rfl (by decide) (thing_pairs (l := l) rfl (newZ (by decide) (by decide)) hl hll (.inr ⟨0, c, _, rfl, rfl, newZ (by decide) (by decide), by decide⟩))
  · rintro v h' q
    obtain ⟨l, w, vv, n2, e, m, hl⟩ := q
    cases e
set_option maxHeartbeats 4000000 in
theorem f28s : CallOK 28 := by
  intro h ba chV spV ch sp n st p1 p2 A
  obtain ⟨hg, hlt, hch, hsp, hl1, hl2⟩ := A
  obtain ⟨a1, m1, c1, rfl⟩ := slV h chV ch hch
  (refine ACalls.bodyB (fn := Tryz.f28) (ng := 4) (N := 12) (res := [.tmp 2]) (by kernel_rfl) rfl rfl rfl (by kernel_rfl) (fun En hs => ?_); simp only [argsL, Nat.reduceAdd])
  clear hs
  ((repeat refine CWp.seq ?_); refine CWp.region ?_)
  repeat (first | refine RL.w good ?_ | refine RL.k ?_)
  refine RL.nil ?_
  (try simp (disch := omega) only [qR])
  ((repeat refine CWp.seq ?_); refine CWp.drawI good (fun g => memN g []) [(0, true), (1, true), (2, true), (3, true), (4, true), (5, true), (6, true), (7, true), (8, false)] (by kernel_rfl) (fun _ _ _ q => q) ?_)
  repeat (first | refine PL.w ?_ | refine PL.wk ?_ | refine PL.ew ?_ | refine PL.ewk ?_)
  (apply PL.efcall; (· (first | exact rfl | (simp only [push_cast, reduceIte, Nat.reduceEqDiff, *]; done) | (simp only [push_cast, reduceIte, Nat.reduceEqDiff, *]; exact rfl))); (· (exact rfl)); (· (exact rfl)); (· (simp (disch := omega) only [push_cast, reduceIte, Nat.reduceEqDiff, beq_self_eq_true, bne_self_eq_false, Int.reduceBEq, Int.reduceBNe, Int.reduceLT, Int.reduceLE, Nat.reduceAdd, Nat.reduceMul, Nat.reduceSub, Int.reduceToNat, Nat.reducePow, Int.reducePow, *] <;> exact rfl)); (· (exact en (by kernel_rfl))); (· (simp (disch := omega) only [push_cast, reduceIte, Nat.reduceEqDiff, beq_self_eq_true, bne_self_eq_false, Int.reduceBEq, Int.reduceBNe, Int.reduceLT, Int.reduceLE, Nat.reduceAdd, Nat.reduceMul, Nat.reduceSub, Int.reduceToNat, Nat.reducePow, Int.reducePow, *] <;> exact rfl)))
  · rw [ov_self En.lt]; exact f29s _ _ _ ch h hch hl1
  · rintro v h' ⟨b, m, e, rfl⟩
    cases e
    refine ⟨by (· ((repeat (first | exact ReF.nil | refine ReF.dep (by exact rfl) ?_ | (apply ReF.op; (· (simp (disch := omega) only [push_cast, reduceIte, Nat.reduceEqDiff, beq_self_eq_true, bne_self_eq_false, Int.reduceBEq, Int.reduceBNe, Int.reduceLT, Int.reduceLE, Nat.reduceAdd, Nat.reduceMul, Nat.reduceSub, Int.reduceToNat, Nat.reducePow, Int.reducePow, *] <;> exact rfl))))))), ?_⟩
    refine PL.nil ?_
    (try simp (disch := omega) only [qR])
    ((repeat refine CWp.seq ?_); refine CWp.region ?_)
    repeat (first | refine RL.w good ?_ | refine RL.k ?_)
    refine RL.nil ?_
    (try simp (disch := omega) only [qR])
    (refine CWp.ret ?_; (try simp (disch := omega) only [qR]); refine rtQ ?_; (try simp only [oneV]))
    exact resNil
  · rintro v h' ⟨b, m, e, _⟩; cases e
set_option maxHeartbeats 4000000 in
theorem f25s : CallOK 25 := by
  intro h ba chV spV ch sp n st p1 p2 A
  obtain ⟨hg, hlt, hch, hsp, hl1, hl2⟩ := A
  obtain ⟨a1, m1, c1, rfl⟩ := slV h spV sp hsp
  (refine ACalls.bodyB (fn := Tryz.f25) (ng := 4) (N := 19) (res := [.tmp 2]) (by kernel_rfl) rfl rfl rfl (by kernel_rfl) (fun En hs => ?_); simp only [argsL, Nat.reduceAdd])
  clear hs
  ((repeat refine CWp.seq ?_); refine CWp.region ?_)
  repeat (first | refine RL.w good ?_ | refine RL.k ?_)
  refine RL.nil ?_
  (try simp (disch := omega) only [qR])
  ((repeat refine CWp.seq ?_); refine CWp.drawJ good (fun g => memN g []) [0, 1, 2, 3, 4, 5, 6, 7] [(8, [(9, true), (10, true), (11, true), (12, false), (13, false), (14, true)]), (12, [(8, false), (9, true), (10, true), (11, true), (13, false), (14, true)])] (by kernel_rfl) (fun _ _ _ q => q) ?_)
  repeat (apply PLT.fl; (· (first | exact rfl | (simp only [push_cast, reduceIte, Nat.reduceEqDiff, *]; done) | (simp only [push_cast, reduceIte, Nat.reduceEqDiff, *]; exact rfl))); (· (simp (disch := omega) only [push_cast, reduceIte, Nat.reduceEqDiff, beq_self_eq_true, bne_self_eq_false, Int.reduceBEq, Int.reduceBNe, Int.reduceLT, Int.reduceLE, Nat.reduceAdd, Nat.reduceMul, Nat.reduceSub, Int.reduceToNat, Nat.reducePow, Int.reducePow, *] <;> exact rfl)); (· (simp only [push_cast] <;> exact rfl)))
  (apply PLT.efcall; (· (first | exact rfl | (simp only [push_cast, reduceIte, Nat.reduceEqDiff, *]; done) | (simp only [push_cast, reduceIte, Nat.reduceEqDiff, *]; exact rfl))); (· (exact rfl)); (· (exact rfl)); (· (simp (disch := omega) only [push_cast, reduceIte, Nat.reduceEqDiff, beq_self_eq_true, bne_self_eq_false, Int.reduceBEq, Int.reduceBNe, Int.reduceLT, Int.reduceLE, Nat.reduceAdd, Nat.reduceMul, Nat.reduceSub, Int.reduceToNat, Nat.reducePow, Int.reducePow, *] <;> exact rfl)); (· (exact en (by kernel_rfl))); (· (simp (disch := omega) only [push_cast, reduceIte, Nat.reduceEqDiff, beq_self_eq_true, bne_self_eq_false, Int.reduceBEq, Int.reduceBNe, Int.reduceLT, Int.reduceLE, Nat.reduceAdd, Nat.reduceMul, Nat.reduceSub, Int.reduceToNat, Nat.reducePow, Int.reducePow, *] <;> exact rfl)))
  · rw [ov_self En.lt]; exact f26s n _ sp h hsp hl2
  · rintro v h' q
    obtain ⟨l, w, n2, e, m, hl⟩ := q
    cases e
    rcases made2 En m with ⟨rfl, rfl, rfl⟩ | ⟨c, rfl, rfl, hc⟩
    · refine ⟨by (· ((repeat (first | exact ReF.nil | refine ReF.dep (by exact rfl) ?_ | (apply ReF.op; (· (simp (disch := omega) only [push_cast, reduceIte, Nat.reduceEqDiff, beq_self_eq_true, bne_self_eq_false, Int.reduceBEq, Int.reduceBNe, Int.reduceLT, Int.reduceLE, Nat.reduceAdd, Nat.reduceMul, Nat.reduceSub, Int.reduceToNat, Nat.reducePow, Int.reducePow, *] <;> exact rfl))))))), PLT.line ?_⟩
      repeat (first | refine PL.w ?_ | refine PL.wk ?_ | refine PL.ew ?_ | refine PL.ewk ?_)
      refine PL.nil ?_
      (try simp (disch := omega) only [qR])
      ((repeat refine CWp.seq ?_); refine CWp.region ?_)
      repeat (first | refine RL.w good ?_ | refine RL.k ?_)
      refine RL.nil ?_
      (try simp (disch := omega) only [qR])
      (refine CWp.ret ?_; (try simp (disch := omega) only [qR]); refine rtQ ?_; (try simp only [oneV]))
      refine resThing (j := 0) (jb := 1) (en (by kernel_rfl)) f27s rfl (by decide) (thing_ints (l := []) rfl (newZ (by decide) (by decide)) (by simp) (.inl ⟨rfl, rfl⟩))
    · refine ⟨by (· ((repeat (first | exact ReF.nil | refine ReF.dep (by exact rfl) ?_ | (apply ReF.op; (· (simp (disch := omega) only [push_cast, reduceIte, Nat.reduceEqDiff, beq_self_eq_true, bne_self_eq_false, Int.reduceBEq, Int.reduceBNe, Int.reduceLT, Int.reduceLE, Nat.reduceAdd, Nat.reduceMul, Nat.reduceSub, Int.reduceToNat, Nat.reducePow, Int.reducePow, *] <;> exact rfl))))))), PLT.line ?_⟩
      repeat (first | refine PL.w ?_ | refine PL.wk ?_ | refine PL.ew ?_ | refine PL.ewk ?_)
      refine PL.nil ?_
      (try simp (disch := omega) only [qR])
      ((repeat refine CWp.seq ?_); refine CWp.region ?_)
      repeat (first | refine RL.w good ?_ | refine RL.k ?_)
      refine RL.nil ?_
      (try simp (disch := omega) only [qR])
      (refine CWp.ret ?_; (try simp (disch := omega) only [qR]); refine rtQ ?_; (try simp only [oneV]))
      refine resThing (j := 1) (jb := 2) (en (by kernel_rfl)) f27s rfl (by decide) (thing_ints (l := l) rfl (newZ (by decide) (by decide)) hl (.inr ⟨0, c, _, rfl, rfl, by decide, newZ (by decide) (by decide), by decide, hc⟩))
  · rintro v h' q
    obtain ⟨l, w, n2, e, m, hl⟩ := q
    cases e
  (apply PLT.ef; (· (first | exact rfl | (simp only [push_cast, reduceIte, Nat.reduceEqDiff, *]; done) | (simp only [push_cast, reduceIte, Nat.reduceEqDiff, *]; exact rfl))); (· (simp (disch := omega) only [push_cast, reduceIte, Nat.reduceEqDiff, beq_self_eq_true, bne_self_eq_false, Int.reduceBEq, Int.reduceBNe, Int.reduceLT, Int.reduceLE, Nat.reduceAdd, Nat.reduceMul, Nat.reduceSub, Int.reduceToNat, Nat.reducePow, Int.reducePow, *] <;> exact rfl)); (· (simp only [push_cast] <;> exact rfl)); (· (simp (disch := omega) only [push_cast, reduceIte, Nat.reduceEqDiff, Nat.reduceAdd] <;> exact rfl)); (· ((repeat (first | exact ReF.nil | refine ReF.dep (by exact rfl) ?_ | (apply ReF.op; (· (simp (disch := omega) only [push_cast, reduceIte, Nat.reduceEqDiff, beq_self_eq_true, bne_self_eq_false, Int.reduceBEq, Int.reduceBNe, Int.reduceLT, Int.reduceLE, Nat.reduceAdd, Nat.reduceMul, Nat.reduceSub, Int.reduceToNat, Nat.reducePow, Int.reducePow, *] <;> exact rfl))))))))
  · refine PLT.line ?_
    repeat (first | refine PL.w ?_ | refine PL.wk ?_ | refine PL.ew ?_ | refine PL.ewk ?_)
    (apply PL.efcall; (· (first | exact rfl | (simp only [push_cast, reduceIte, Nat.reduceEqDiff, *]; done) | (simp only [push_cast, reduceIte, Nat.reduceEqDiff, *]; exact rfl))); (· (exact rfl)); (· (exact rfl)); (· (simp (disch := omega) only [push_cast, reduceIte, Nat.reduceEqDiff, beq_self_eq_true, bne_self_eq_false, Int.reduceBEq, Int.reduceBNe, Int.reduceLT, Int.reduceLE, Nat.reduceAdd, Nat.reduceMul, Nat.reduceSub, Int.reduceToNat, Nat.reducePow, Int.reducePow, *] <;> exact rfl)); (· (exact en (by kernel_rfl))); (· (simp (disch := omega) only [push_cast, reduceIte, Nat.reduceEqDiff, beq_self_eq_true, bne_self_eq_false, Int.reduceBEq, Int.reduceBNe, Int.reduceLT, Int.reduceLE, Nat.reduceAdd, Nat.reduceMul, Nat.reduceSub, Int.reduceToNat, Nat.reducePow, Int.reducePow, *] <;> exact rfl)))
    · exact f26s n _ sp _ (hsp.ov _ _) hl2
    · rintro v h' q
      obtain ⟨l, w, n2, e, m, hl⟩ := q
      cases e
      rcases m with ⟨rfl, rfl, rfl⟩ | ⟨c, rfl, rfl, hc⟩
      · refine ⟨by (· ((repeat (first | exact ReF.nil | refine ReF.dep (by exact rfl) ?_ | (apply ReF.op; (· (simp (disch := omega) only [push_cast, reduceIte, Nat.reduceEqDiff, beq_self_eq_true, bne_self_eq_false, Int.reduceBEq, Int.reduceBNe, Int.reduceLT, Int.reduceLE, Nat.reduceAdd, Nat.reduceMul, Nat.reduceSub, Int.reduceToNat, Nat.reducePow, Int.reducePow, *] <;> exact rfl))))))), ?_⟩
        repeat (first | refine PL.w ?_ | refine PL.wk ?_ | refine PL.ew ?_ | refine PL.ewk ?_)
        refine PL.nil ?_
        (try simp (disch := omega) only [qR])
        ((repeat refine CWp.seq ?_); refine CWp.region ?_)
        repeat (first | refine RL.w good ?_ | refine RL.k ?_)
        refine RL.nil ?_
        (try simp (disch := omega) only [qR])
        (refine CWp.ret ?_; (try simp (disch := omega) only [qR]); refine rtQ ?_; (try simp only [oneV]))
        refine resThing (j := 0) (jb := 1) (en (by kernel_rfl)) f27s rfl (by decide) (thing_ints (l := []) rfl (newZ (by decide) (by decide)) (by simp) (.inl ⟨rfl, rfl⟩))
      · simp only [loc_ov, ov_ov (h := h) (L := [(0, _)]) (k := 1) rfl, shift, List.cons_append, List.nil_append, Nat.reduceAdd, Nat.add_zero]
        refine ⟨by (· ((repeat (first | exact ReF.nil | refine ReF.dep (by exact rfl) ?_ | (apply ReF.op; (· (simp (disch := omega) only [push_cast, reduceIte, Nat.reduceEqDiff, beq_self_eq_true, bne_self_eq_false, Int.reduceBEq, Int.reduceBNe, Int.reduceLT, Int.reduceLE, Nat.reduceAdd, Nat.reduceMul, Nat.reduceSub, Int.reduceToNat, Nat.reducePow, Int.reducePow, *] <;> exact rfl))))))), ?_⟩
        repeat (first | refine PL.w ?_ | refine PL.wk ?_ | refine PL.ew ?_ | refine PL.ewk ?_)
        refine PL.nil ?_
        (try simp (disch := omega) only [qR])
        ((repeat refine CWp.seq ?_); refine CWp.region ?_)
        repeat (first | refine RL.w good ?_ | refine RL.k ?_)
        refine RL.nil ?_
        (try simp (disch := omega) only [qR])
        (refine CWp.ret ?_; (try simp (disch := omega) only [qR]); refine rtQ ?_; (try simp only [oneV]))
        refine resThing (j := 0) (jb := 2) (en (by kernel_rfl)) f27s rfl (by decide) (thing_ints (l := l) rfl (newZ (by decide) (by decide)) hl (.inr ⟨1, c, _, rfl, rfl, by decide, newZ (by decide) (by decide), by decide, hc⟩))
    · rintro v h' q
      obtain ⟨l, w, n2, e, m, hl⟩ := q
      cases e
  · exact PLT.stop
set_option maxHeartbeats 4000000 in
theorem f30s : CallOK 30 := by
  intro h ba chV spV ch sp n st p1 p2 A
  obtain ⟨hg, hlt, hch, hsp, hl1, hl2⟩ := A
  (refine ACalls.bodyB (fn := Tryz.f30) (ng := 4) (N := 21) (res := [.tmp 2]) (by kernel_rfl) rfl rfl rfl (by kernel_rfl) (fun En hs => ?_); simp only [argsL, Nat.reduceAdd])
  clear hs
  ((repeat refine CWp.seq ?_); refine CWp.region ?_)
  repeat (first | refine RL.w good ?_ | refine RL.k ?_)
  refine RL.nil ?_
  (try simp (disch := omega) only [qR])
  ((repeat refine CWp.seq ?_); refine CWp.drawJ good (fun g => memN g []) [0, 1, 2, 3, 4, 5, 6, 7] [(8, [(9, true), (10, true), (11, true), (12, true), (13, false), (14, false), (15, true), (16, true)]), (13, [(8, false), (9, true), (10, true), (11, true), (12, true), (14, false), (15, true), (16, true)])] (by kernel_rfl) (fun _ _ _ q => q) ?_)
  repeat (apply PLT.fl; (· (first | exact rfl | (simp only [push_cast, reduceIte, Nat.reduceEqDiff, *]; done) | (simp only [push_cast, reduceIte, Nat.reduceEqDiff, *]; exact rfl))); (· (simp (disch := omega) only [push_cast, reduceIte, Nat.reduceEqDiff, beq_self_eq_true, bne_self_eq_false, Int.reduceBEq, Int.reduceBNe, Int.reduceLT, Int.reduceLE, Nat.reduceAdd, Nat.reduceMul, Nat.reduceSub, Int.reduceToNat, Nat.reducePow, Int.reducePow, *] <;> exact rfl)); (· (simp only [push_cast] <;> exact rfl)))
  (apply PLT.efcall; (· (first | exact rfl | (simp only [push_cast, reduceIte, Nat.reduceEqDiff, *]; done) | (simp only [push_cast, reduceIte, Nat.reduceEqDiff, *]; exact rfl))); (· (exact rfl)); (· (exact rfl)); (· (simp (disch := omega) only [push_cast, reduceIte, Nat.reduceEqDiff, beq_self_eq_true, bne_self_eq_false, Int.reduceBEq, Int.reduceBNe, Int.reduceLT, Int.reduceLE, Nat.reduceAdd, Nat.reduceMul, Nat.reduceSub, Int.reduceToNat, Nat.reducePow, Int.reducePow, *] <;> exact rfl)); (· (exact en (by kernel_rfl))); (· (simp (disch := omega) only [push_cast, reduceIte, Nat.reduceEqDiff, beq_self_eq_true, bne_self_eq_false, Int.reduceBEq, Int.reduceBNe, Int.reduceLT, Int.reduceLE, Nat.reduceAdd, Nat.reduceMul, Nat.reduceSub, Int.reduceToNat, Nat.reducePow, Int.reducePow, *] <;> exact rfl)))
  · rw [ov_self En.lt]; exact f31s n _ _ h
  · rintro v h' q
    obtain ⟨l, w, n2, n3, e, m, hl⟩ := q
    cases e
    rcases made2 En m with ⟨rfl, rfl, rfl⟩ | ⟨c, rfl, rfl, hc⟩
    · refine ⟨by (· ((repeat (first | exact ReF.nil | refine ReF.dep (by exact rfl) ?_ | (apply ReF.op; (· (simp (disch := omega) only [push_cast, reduceIte, Nat.reduceEqDiff, beq_self_eq_true, bne_self_eq_false, Int.reduceBEq, Int.reduceBNe, Int.reduceLT, Int.reduceLE, Nat.reduceAdd, Nat.reduceMul, Nat.reduceSub, Int.reduceToNat, Nat.reducePow, Int.reducePow, *] <;> exact rfl))))))), PLT.line ?_⟩
      repeat (first | refine PL.w ?_ | refine PL.wk ?_ | refine PL.ew ?_ | refine PL.ewk ?_)
      refine PL.nil ?_
      (try simp (disch := omega) only [qR])
      ((repeat refine CWp.seq ?_); refine CWp.region ?_)
      repeat (first | refine RL.w good ?_ | refine RL.k ?_)
      refine RL.nil ?_
      (try simp (disch := omega) only [qR])
      (refine CWp.ret ?_; (try simp (disch := omega) only [qR]); refine rtQ ?_; (try simp only [oneV]))
      refine resThing (j := 0) (jb := 1) (en (by kernel_rfl)) f32s rfl (by decide) (thing_ints (l := []) rfl (newZ (by decide) (by decide)) (by simp) (.inl ⟨rfl, rfl⟩))
    · refine ⟨by (· ((repeat (first | exact ReF.nil | refine ReF.dep (by exact rfl) ?_ | (apply ReF.op; (· (simp (disch := omega) only [push_cast, reduceIte, Nat.reduceEqDiff, beq_self_eq_true, bne_self_eq_false, Int.reduceBEq, Int.reduceBNe, Int.reduceLT, Int.reduceLE, Nat.reduceAdd, Nat.reduceMul, Nat.reduceSub, Int.reduceToNat, Nat.reducePow, Int.reducePow, *] <;> exact rfl))))))), PLT.line ?_⟩
      repeat (first | refine PL.w ?_ | refine PL.wk ?_ | refine PL.ew ?_ | refine PL.ewk ?_)
      refine PL.nil ?_
      (try simp (disch := omega) only [qR])
      ((repeat refine CWp.seq ?_); refine CWp.region ?_)
      repeat (first | refine RL.w good ?_ | refine RL.k ?_)
      refine RL.nil ?_
      (try simp (disch := omega) only [qR])
      (refine CWp.ret ?_; (try simp (disch := omega) only [qR]); refine rtQ ?_; (try simp only [oneV]))
      refine resThing (j := 1) (jb := 2) (en (by kernel_rfl)) f32s rfl (by decide) (thing_ints (l := l) rfl (newZ (by decide) (by decide)) hl (.inr ⟨0, c, _, rfl, rfl, by decide, newZ (by decide) (by decide), by decide, hc⟩))
  · rintro v h' q
    obtain ⟨l, w, n2, n3, e, m, hl⟩ := q
    cases e
  (apply PLT.ef; (· (first | exact rfl | (simp only [push_cast, reduceIte, Nat.reduceEqDiff, *]; done) | (simp only [push_cast, reduceIte, Nat.reduceEqDiff, *]; exact rfl))); (· (simp (disch := omega) only [push_cast, reduceIte, Nat.reduceEqDiff, beq_self_eq_true, bne_self_eq_false, Int.reduceBEq, Int.reduceBNe, Int.reduceLT, Int.reduceLE, Nat.reduceAdd, Nat.reduceMul, Nat.reduceSub, Int.reduceToNat, Nat.reducePow, Int.reducePow, *] <;> exact rfl)); (· (simp only [push_cast] <;> exact rfl)); (· (simp (disch := omega) only [push_cast, reduceIte, Nat.reduceEqDiff, Nat.reduceAdd] <;> exact rfl)); (· ((repeat (first | exact ReF.nil | refine ReF.dep (by exact rfl) ?_ | (apply ReF.op; (· (simp (disch := omega) only [push_cast, reduceIte, Nat.reduceEqDiff, beq_self_eq_true, bne_self_eq_false, Int.reduceBEq, Int.reduceBNe, Int.reduceLT, Int.reduceLE, Nat.reduceAdd, Nat.reduceMul, Nat.reduceSub, Int.reduceToNat, Nat.reducePow, Int.reducePow, *] <;> exact rfl))))))))
  · refine PLT.line ?_
    repeat (first | refine PL.w ?_ | refine PL.wk ?_ | refine PL.ew ?_ | refine PL.ewk ?_)
    (apply PL.efcall; (· (first | exact rfl | (simp only [push_cast, reduceIte, Nat.reduceEqDiff, *]; done) | (simp only [push_cast, reduceIte, Nat.reduceEqDiff, *]; exact rfl))); (· (exact rfl)); (· (exact rfl)); (· (simp (disch := omega) only [push_cast, reduceIte, Nat.reduceEqDiff, beq_self_eq_true, bne_self_eq_false, Int.reduceBEq, Int.reduceBNe, Int.reduceLT, Int.reduceLE, Nat.reduceAdd, Nat.reduceMul, Nat.reduceSub, Int.reduceToNat, Nat.reducePow, Int.reducePow, *] <;> exact rfl)); (· (exact en (by kernel_rfl))); (· (simp (disch := omega) only [push_cast, reduceIte, Nat.reduceEqDiff, beq_self_eq_true, bne_self_eq_false, Int.reduceBEq, Int.reduceBNe, Int.reduceLT, Int.reduceLE, Nat.reduceAdd, Nat.reduceMul, Nat.reduceSub, Int.reduceToNat, Nat.reducePow, Int.reducePow, *] <;> exact rfl)))
    · exact f31s n _ _ _
    · rintro v h' q
      obtain ⟨l, w, n2, n3, e, m, hl⟩ := q
      cases e
      rcases m with ⟨rfl, rfl, rfl⟩ | ⟨c, rfl, rfl, hc⟩
      · refine ⟨by (· ((repeat (first | exact ReF.nil | refine ReF.dep (by exact rfl) ?_ | (apply ReF.op; (· (simp (disch := omega) only [push_cast, reduceIte, Nat.reduceEqDiff, beq_self_eq_true, bne_self_eq_false, Int.reduceBEq, Int.reduceBNe, Int.reduceLT, Int.reduceLE, Nat.reduceAdd, Nat.reduceMul, Nat.reduceSub, Int.reduceToNat, Nat.reducePow, Int.reducePow, *] <;> exact rfl))))))), ?_⟩
        repeat (first | refine PL.w ?_ | refine PL.wk ?_ | refine PL.ew ?_ | refine PL.ewk ?_)
        refine PL.nil ?_
        (try simp (disch := omega) only [qR])
        ((repeat refine CWp.seq ?_); refine CWp.region ?_)
        repeat (first | refine RL.w good ?_ | refine RL.k ?_)
        refine RL.nil ?_
        (try simp (disch := omega) only [qR])
        (refine CWp.ret ?_; (try simp (disch := omega) only [qR]); refine rtQ ?_; (try simp only [oneV]))
        refine resThing (j := 0) (jb := 1) (en (by kernel_rfl)) f32s rfl (by decide) (thing_ints (l := []) rfl (newZ (by decide) (by decide)) (by simp) (.inl ⟨rfl, rfl⟩))
      · simp only [loc_ov, ov_ov (h := h) (L := [(0, _)]) (k := 1) rfl, shift, List.cons_append, List.nil_append, Nat.reduceAdd, Nat.add_zero]
        refine ⟨by (· ((repeat (first | exact ReF.nil | refine ReF.dep (by exact rfl) ?_ | (apply ReF.op; (· (simp (disch := omega) only [push_cast, reduceIte, Nat.reduceEqDiff, beq_self_eq_true, bne_self_eq_false, Int.reduceBEq, Int.reduceBNe, Int.reduceLT, Int.reduceLE, Nat.reduceAdd, Nat.reduceMul, Nat.reduceSub, Int.reduceToNat, Nat.reducePow, Int.reducePow, *] <;> exact rfl))))))), ?_⟩
        repeat (first | refine PL.w ?_ | refine PL.wk ?_ | refine PL.ew ?_ | refine PL.ewk ?_)
        refine PL.nil ?_
        (try simp (disch := omega) only [qR])
        ((repeat refine CWp.seq ?_); refine CWp.region ?_)
        repeat (first | refine RL.w good ?_ | refine RL.k ?_)
        refine RL.nil ?_
        (try simp (disch := omega) only [qR])
        (refine CWp.ret ?_; (try simp (disch := omega) only [qR]); refine rtQ ?_; (try simp only [oneV]))
        refine resThing (j := 0) (jb := 2) (en (by kernel_rfl)) f32s rfl (by decide) (thing_ints (l := l) rfl (newZ (by decide) (by decide)) hl (.inr ⟨1, c, _, rfl, rfl, by decide, newZ (by decide) (by decide), by decide, hc⟩))
    · rintro v h' q
      obtain ⟨l, w, n2, n3, e, m, hl⟩ := q
      cases e
  · exact PLT.stop
end Go.Ab
namespace Go.Ab
open Go.Proofs
set_option maxRecDepth 10000
set_option maxHeartbeats 4000000 in
theorem f38s (v : Value) (l : List Int) (h : Hp) (hv : IsInts h v l) (hl : l.length ≤ 1000000) : ACalls Tryz.prog 38 [v] (fun e h' => ∃ v', e = .ret v' ∧ MadeInts h l v' h') h := by
  rcases hv.told with ⟨rfl, rfl⟩ | ⟨i, o, c, ob, ro, e, rfl, hi, hg, hld, hc⟩
  · (refine ACalls.bodyB (fn := Tryz.f38) (ng := 4) (N := 5) (res := [.tmp 2]) (by kernel_rfl) rfl rfl rfl (by kernel_rfl) (fun En hs => ?_); simp only [argsL, Nat.reduceAdd])
    ((repeat refine CWp.seq ?_); refine CWp.region ?_)
    repeat (first | refine RL.w good ?_ | refine RL.k ?_)
    refine RL.nil ?_
    (try simp (disch := omega) only [qR])
    ((repeat refine CWp.seq ?_); refine CWp.region ?_)
    repeat (first | refine RL.w good ?_ | refine RL.k ?_)
    refine RL.nil ?_
    (try simp (disch := omega) only [qR])
    (refine CWp.ret ?_; (try simp (disch := omega) only [qR]); refine rtB ?_; (try simp only [oneV]))
    exact EndB.plain En rfl ⟨_, rfl, .inl ⟨rfl, rfl, rfl⟩⟩
  · (refine ACalls.bodyB (fn := Tryz.f38) (ng := 4) (N := 5) (res := [.tmp 2]) (by kernel_rfl) rfl rfl rfl (by kernel_rfl) (fun En hs => ?_); simp only [argsL, Nat.reduceAdd])
    clear hs
    by_cases hz : l = []
    · subst hz
      have hld' : ldN (ov h [] [] 0).get ⟨i, o, none⟩ 0 = some [] := by
        unfold ldN
        simp only [ov_low0 hi, hg, takeN]
        rfl
      ((repeat refine CWp.seq ?_); refine CWp.region ?_)
      repeat (first | refine RL.w good ?_ | refine RL.k ?_)
      refine RL.nil ?_
      (try simp (disch := omega) only [qR])
      ((repeat refine CWp.seq ?_); refine CWp.region ?_)
      repeat (first | refine RL.w good ?_ | refine RL.k ?_)
      refine RL.nil ?_
      (try simp (disch := omega) only [qR])
      (refine CWp.ret ?_; (try simp (disch := omega) only [qR]); refine rtB ?_; (try simp only [oneV]))
      exact EndB.plain En rfl ⟨_, rfl, .inl ⟨rfl, rfl, rfl⟩⟩
    · have hpos : 0 < l.length := List.length_pos_iff.2 hz
      have hld := hld.resolve_left hz
      ((repeat refine CWp.seq ?_); refine CWp.region ?_)
      repeat (first | refine RL.w good ?_ | refine RL.k ?_)
      refine RL.nil ?_
      (try simp (disch := omega) only [qR])
      ((repeat refine CWp.seq ?_); refine CWp.region ?_)
      repeat (first | refine RL.w good ?_ | refine RL.k ?_)
      refine RL.nil ?_
      (try simp (disch := omega) only [qR])
      (refine CWp.ret ?_; (try simp (disch := omega) only [qR]); refine rtQ ?_; (try simp only [oneV]))
      exact ⟨_, rfl, .inr ⟨U + 1, rfl, rfl, .inl rfl⟩⟩

theorem made3 {h h1 : Hp} {L : List (Nat × AObj)} {k : Nat} (hb : below k L = true) {l : List Int} {v : Value} (m : MadeInts (Ab.ov h [] L k) l v h1) : (v = .slice none 0 0 ∧ l = [] ∧ h1 = Ab.ov h [] L k) ∨ ∃ c, v = .slice (some ⟨loc h k, 0, none⟩) l.length c ∧ h1 = Ab.ov h [] ((k, .cells (Ab.ints l) false 3) :: L) (k + 1) ∧ CapOK c l.length 1 := by
  rcases m with m | ⟨c, rfl, rfl, hc⟩
  · exact .inl m
  · exact .inr ⟨c, by rw [loc_ov, Nat.add_zero], by rw [ov_ov hb]; rfl, hc⟩
def NewInts (h h' : Hp) (v : Value) (l : List Int) : Prop := (v = .slice none 0 0 ∧ l = []) ∨ ∃ b c, v = .slice (some ⟨b, 0, none⟩) l.length c ∧ h.next ≤ b ∧ b < h'.next ∧ h'.get b = some (.cells (ints l) false 3) ∧ CapOK c l.length 1
theorem NewInts.at {h h' : Hp} {v : Value} {l : List Int} (m : NewInts h h' v l) {x : Nat} (ha : At v x) : h.next ≤ x ∧ x < h'.next ∧ h'.get x = some (.cells (ints l) false 3) := by
  obtain ⟨o, n, c, ha⟩ := ha
  rcases m with ⟨rfl, _⟩ | ⟨b, c, rfl, h1, h2, h3, _⟩
  · cases ha
  · cases ha; exact ⟨h1, h2, h3⟩
theorem NewInts.is {h h' : Hp} {v : Value} {l : List Int} (m : NewInts h h' v l) : IsSl 1 h' v (ints l) l.length := by
  refine ⟨by simp, ?_⟩
  rcases m with ⟨rfl, rfl⟩ | ⟨b, c, rfl, h1, h2, h3, h4⟩
  · exact .inl ⟨rfl, rfl⟩
  · refine .inr ⟨b, 0, c, _, _, _, rfl, h2, h3, .inr ?_, h4⟩
    rw [List.drop_zero, List.take_of_length_le (by simp)]
theorem NewInts.nil {h h' : Hp} : NewInts h h' (.slice none 0 0) [] := .inl ⟨rfl, rfl⟩
theorem NewInts.loc {h : Hp} {L : List (Nat × AObj)} {k j c : Nat} {l : List Int} (hj : j < k) (hl : lk L j = some (.cells (ints l) false 3)) (hc : CapOK c l.length 1) : NewInts h (Ab.ov h [] L k) (.slice (some ⟨Ab.loc h j, 0, none⟩) l.length c) l :=
  .inr ⟨_, c, rfl, by unfold Ab.loc; omega, by rw [ov_next, loc_lt]; exact hj, by rw [ov_loc]; exact hl, hc⟩
theorem at_nil {x : Nat} : ¬ At (.slice none 0 0) x := by rintro ⟨_, _, _, h⟩; cases h
theorem at_loc {h : Hp} {j n c x : Nat} (ha : At (.slice (some ⟨loc h j, 0, none⟩) n c) x) : x = loc h j := by obtain ⟨_, _, _, h⟩ := ha; cases h; rfl
def OwnPost (n st p1 p2 : Int) (ch sp : List Int) (h : Hp) (e : AEnd) (h' : Hp) : Prop := ∃ c2 s2, e = .ret (.agg #[c2, .int .i64 n, .int .i64 st, s2, .int .i64 p1, .int .i64 p2]) ∧ Ext h h' ∧ NewInts h h' c2 ch ∧ NewInts h h' s2 sp ∧ ∀ x, At c2 x → ¬ At s2 x
set_option maxHeartbeats 4000000 in
theorem f5s (h : Hp) (chV spV : Value) (ch sp : List Int) (n st p1 p2 : Int) (hch : IsInts h chV ch) (hsp : IsInts h spV sp) (hl1 : ch.length ≤ 1000000) (hl2 : sp.length ≤ 1000000) :
    ACalls Tryz.prog 5 [.agg #[chV, .int .i64 n, .int .i64 st, spV, .int .i64 p1, .int .i64 p2]] (OwnPost n st p1 p2 ch sp h) h := by
  obtain ⟨a1, m1, c1, rfl⟩ := slV h chV ch hch
  obtain ⟨a2, m2, c2, rfl⟩ := slV h spV sp hsp
  (refine ACalls.bodyB (fn := Tryz.f5) (ng := 4) (N := 12) (res := [.cell 2 26]) (by kernel_rfl) rfl rfl rfl (by kernel_rfl) (fun En hs => ?_); simp only [argsL, Nat.reduceAdd])
  clear hs
  ((repeat refine CWp.seq ?_); refine CWp.region ?_)
  repeat (first | refine RL.w good ?_ | refine RL.k ?_)
  refine RL.nil ?_
  (try simp (disch := omega) only [qR])
  ((repeat refine CWp.seq ?_); refine CWp.region ?_)
  repeat (first | refine RL.w good ?_ | refine RL.k ?_)
  (refine' RL.c good ?_ ?_ ?_; rotate_left)
  · exact f38s _ ch _ (hch.ov _ _) hl1
  · rintro v h' ⟨v', e, m⟩
    cases e
    rcases made3 rfl m with ⟨rfl, rfl, rfl⟩ | ⟨c, rfl, rfl, hc⟩
    · repeat (first | refine RL.w good ?_ | refine RL.k ?_)
      refine RL.nil ?_
      (try simp (disch := omega) only [qR])
      ((repeat refine CWp.seq ?_); refine CWp.region ?_)
      repeat (first | refine RL.w good ?_ | refine RL.k ?_)
      (refine' RL.c good ?_ ?_ ?_; rotate_left)
      · exact f38s _ sp _ (hsp.ov _ _) hl2
      · rintro v h' ⟨v', e, m⟩
        cases e
        rcases made3 rfl m with ⟨rfl, rfl, rfl⟩ | ⟨c', rfl, rfl, hc'⟩
        · repeat (first | refine RL.w good ?_ | refine RL.k ?_)
          refine RL.nil ?_
          (try simp (disch := omega) only [qR])
          ((repeat refine CWp.seq ?_); refine CWp.region ?_)
          repeat (first | refine RL.w good ?_ | refine RL.k ?_)
          refine RL.nil ?_
          (try simp (disch := omega) only [qR])
          (refine CWp.ret ?_; (try simp (disch := omega) only [qR]); refine rtQ ?_; (try simp only [oneV]))
          exact ⟨_, _, rfl, .ov, .nil, .nil, fun _ h => absurd h at_nil⟩
        · repeat (first | refine RL.w good ?_ | refine RL.k ?_)
          refine RL.nil ?_
          (try simp (disch := omega) only [qR])
          ((repeat refine CWp.seq ?_); refine CWp.region ?_)
          repeat (first | refine RL.w good ?_ | refine RL.k ?_)
          refine RL.nil ?_
          (try simp (disch := omega) only [qR])
          (refine CWp.ret ?_; (try simp (disch := omega) only [qR]); refine rtQ ?_; (try simp only [oneV]))
          exact ⟨_, _, rfl, .ov, .nil, .loc (by decide) rfl hc', fun _ h => absurd h at_nil⟩
      · rintro v h' ⟨_, e, _⟩; cases e
    · repeat (first | refine RL.w good ?_ | refine RL.k ?_)
      refine RL.nil ?_
      (try simp (disch := omega) only [qR])
      ((repeat refine CWp.seq ?_); refine CWp.region ?_)
      repeat (first | refine RL.w good ?_ | refine RL.k ?_)
      (refine' RL.c good ?_ ?_ ?_; rotate_left)
      · exact f38s _ sp _ (hsp.ov _ _) hl2
      · rintro v h' ⟨v', e, m⟩
        cases e
        rcases made3 rfl m with ⟨rfl, rfl, rfl⟩ | ⟨c', rfl, rfl, hc'⟩
        · repeat (first | refine RL.w good ?_ | refine RL.k ?_)
          refine RL.nil ?_
          (try simp (disch := omega) only [qR])
          ((repeat refine CWp.seq ?_); refine CWp.region ?_)
          repeat (first | refine RL.w good ?_ | refine RL.k ?_)
          refine RL.nil ?_
          (try simp (disch := omega) only [qR])
          (refine CWp.ret ?_; (try simp (disch := omega) only [qR]); refine rtQ ?_; (try simp only [oneV]))
          exact ⟨_, _, rfl, .ov, .loc (by decide) rfl hc, .nil, fun _ _ => at_nil⟩
        · repeat (first | refine RL.w good ?_ | refine RL.k ?_)
          refine RL.nil ?_
          (try simp (disch := omega) only [qR])
          ((repeat refine CWp.seq ?_); refine CWp.region ?_)
          repeat (first | refine RL.w good ?_ | refine RL.k ?_)
          refine RL.nil ?_
          (try simp (disch := omega) only [qR])
          (refine CWp.ret ?_; (try simp (disch := omega) only [qR]); refine rtQ ?_; (try simp only [oneV]))
          exact ⟨_, _, rfl, .ov, .loc (by decide) rfl hc, .loc (by decide) rfl hc', fun _ h q => by have := at_loc h; have := at_loc q; simp_all [loc_inj]⟩
      · rintro v h' ⟨_, e, _⟩; cases e
  · rintro v h' ⟨_, e, _⟩; cases e
end Go.Ab
