/- A part of the proof of a law over a given program: Rf2, Ins, Sh2, Pt. -/
import Derived.Test.YtckgcmgnpblnaaaGreatDoorT12
import Derived.Test.YtckgcmgnpblnaaaGreatDoorT17
set_option linter.unusedVariables false
set_option linter.unusedSimpArgs false
/- The statement that ranges over a function, and the function that holds it. -/
namespace Go.Ab
open Go.RowKit
/-- what a function has to do when it ends: nothing, or to shut the block of a range over a function -/
def MK (s : Nat) (ρ : Ren) (h : Hp) (w : World) : Bool → List Deferred → Prop
  | false, ds => ds = []
  | true, ds => ∃ D, ds = [{ target := .collected D, args := #[] }] ∧ s ≤ D ∧ w.heap[D]? = some (.deferred (some [])) ∧ ¬ Owned ρ h D
theorem MK.fr {B s : Nat} {ρ ρ' : Ren} {h h' : Hp} {w w' : World} {b : Bool} {ds : List Deferred} (m : MK s ρ h w b ds) (F : Fr B ρ h w ρ' h' w') : MK s ρ' h' w' b ds := by
  cases b with
  | false => exact m
  | true =>
    obtain ⟨D, e, hs, hd, hn⟩ := m
    have hlt : D < w.heap.size := (Array.getElem?_eq_some_iff.1 hd).1
    exact ⟨D, e, hs, (F.block D hlt hn).trans hd, fun o => hn (F.own D hlt o)⟩
abbrev MPost := AEx → (Nat → Value) → Hp → Bool → Prop
def PostM (P : Program) (s : Nat) (ρ : Ren) (h : Hp) (w : World) (N : Nat) (Q : MPost) : Exit → Act → World → Prop := fun e a' w' =>
  ∃ e' ρ' T' h' f', ExR ρ' e' e ∧ HR P ρ' h' w' ∧ Fr h.next ρ h w ρ' h' w' ∧ TR ρ' T' N a' ∧ MK s ρ' h' w' f' a'.defers ∧ Q e' T' h' f'
def AWpM (P : Program) (N : Nat) (c : Code) (Q : MPost) (T : Nat → Value) (h : Hp) (f : Bool) : Prop :=
  ∀ s ρ w a, s ≤ w.heap.size → HR P ρ h w → TR ρ T N a → MK s ρ h w f a.defers → c.wpIn (FR none) 0 P (PostM P s ρ h w N Q) a w
section
variable {P : Program} {N : Nat} {Q : MPost} {T : Nat → Value} {h : Hp} {f : Bool}
theorem PostM.trans {s : Nat} {ρ ρ1 : Ren} {h1 : Hp} {w w1 : World} {e : Exit} {a' : Act} {w' : World} (F : Fr h.next ρ h w ρ1 h1 w1) (p : PostM P s ρ1 h1 w1 N Q e a' w') : PostM P s ρ h w N Q e a' w' := by
  obtain ⟨e', ρ', T', h', f', p1, p2, p3, p4, p5, p6⟩ := p
  exact ⟨e', ρ', T', h', f', p1, p2, F.trans p3 F.next, p4, p5, p6⟩
theorem AWpM.of {c : Code} {Q' : APost} (p : AWp P N c Q' T h) (hq : ∀ e T h, Q' e T h → Q e T h f) : AWpM P N c Q T h f := fun s ρ w a hs H ht hm =>
  wpIn_mono (p none ρ w a H ht) fun _ a' _ ⟨e', ρ', T', h', p1, p2, p3, p4, p5, p6⟩ => ⟨e', ρ', T', h', f, p1, p2, p3, p4, by rw [p5]; exact hm.fr p3, hq _ _ _ p6⟩
theorem AWpM.mono {Q' : MPost} {c : Code} (hq : ∀ e T h f, Q e T h f → Q' e T h f) (p : AWpM P N c Q T h f) : AWpM P N c Q' T h f := fun s ρ w a hs H ht hm =>
  wpIn_mono (p s ρ w a hs H ht hm) fun _ _ _ ⟨e', ρ', T', h', f', p1, p2, p3, p4, p5, p6⟩ => ⟨e', ρ', T', h', f', p1, p2, p3, p4, p5, hq _ _ _ _ p6⟩
theorem AWpM.weaken {c : Code} {T' : Nat → Value} (ht : ∀ t, T' t = T t ∨ T' t = junk) (p : AWpM P N c Q T' h f) : AWpM P N c Q T h f := fun s ρ w a hs H hT hm => p s ρ w a hs H ⟨hT.1, fun t => by
  rcases ht t with e | e
  · rw [e]; exact hT.2 t
  · rw [e]; exact trivial⟩ hm
theorem AWpM.entry {c : Code} (p : Entry P h → AWpM P N c Q T h f) : AWpM P N c Q T h f := fun s ρ w a hs H ht hm => p H.entry s ρ w a hs H ht hm
theorem AWpM.seq {x y : Code} (p : AWpM P N x (fun e T h f => match e with | .normal => AWpM P N y Q T h f | e => Q e T h f) T h f) : AWpM P N (.seq x y) Q T h f := fun s ρ w a hs H ht hm =>
  wpIn_seq (wpIn_mono (p s ρ w a hs H ht hm) fun e a' w' ⟨e', ρ', T', h', f', p1, p2, p3, p4, p5, p6⟩ => by
    cases e' with
    | normal => cases p1; exact wpIn_mono (p6 s _ _ _ (Nat.le_trans hs p3.size) p2 p4 p5) fun _ _ _ q => q.trans p3
    | exit n => cases p1; exact ⟨.exit n, ρ', T', h', f', rfl, p2, p3, p4, p5, p6⟩
    | goto n => cases p1; exact ⟨.goto n, ρ', T', h', f', rfl, p2, p3, p4, p5, p6⟩
    | ret => cases p1; exact ⟨.ret, ρ', T', h', f', rfl, p2, p3, p4, p5, p6⟩
    | panic v => obtain ⟨c, rfl, p7⟩ := p1; exact ⟨.panic v, ρ', T', h', f', ⟨c, rfl, p7⟩, p2, p3, p4, p5, p6⟩)
def blockM (i : Nat) (Q : MPost) : MPost
  | .exit j, T, h, f => bif Nat.beq j i then Q .normal T h f else Q (.exit j) T h f
  | e, T, h, f => Q e T h f
theorem AWpM.block {i : Nat} {c : Code} (p : AWpM P N c (blockM i Q) T h f) : AWpM P N (.block i c) Q T h f := fun s ρ w a hs H ht hm =>
  wpIn_block (wpIn_mono (p s ρ w a hs H ht hm) fun e a' w' q => by
    obtain ⟨e', ρ', T', h', f', p1, p2, p3, p4, p5, p6⟩ := q
    cases e' with
    | exit j =>
      cases p1
      simp only [blockM] at p6
      cases hb : Nat.beq j i with
      | true =>
        rw [hb] at p6
        have := Nat.eq_of_beq_eq_true hb
        simp only [Exit.inBlock, if_pos this]
        exact ⟨.normal, ρ', T', h', f', rfl, p2, p3, p4, p5, p6⟩
      | false =>
        rw [hb] at p6
        have := Nat.ne_of_beq_eq_false hb
        simp only [Exit.inBlock, if_neg this]
        exact ⟨.exit j, ρ', T', h', f', rfl, p2, p3, p4, p5, p6⟩
    | normal => cases p1; exact ⟨.normal, ρ', T', h', f', rfl, p2, p3, p4, p5, p6⟩
    | goto n => cases p1; exact ⟨.goto n, ρ', T', h', f', rfl, p2, p3, p4, p5, p6⟩
    | ret => cases p1; exact ⟨.ret, ρ', T', h', f', rfl, p2, p3, p4, p5, p6⟩
    | panic v => obtain ⟨c, rfl, p7⟩ := p1; exact ⟨.panic v, ρ', T', h', f', ⟨c, rfl, p7⟩, p2, p3, p4, p5, p6⟩)
/-- a new block of which the abstract heap knows nothing -/
theorem HR.beside {ρ : Ren} {w : World} (H : HR P ρ h w) (ob : Obj) : HR P ρ h (w.alloc ob) :=
  ⟨H.lt, fun i l hi => ⟨(H.dom i l hi).1, by have := (H.dom i l hi).2; simp; omega⟩, fun i o hi => by
    obtain ⟨l, h1, h2⟩ := H.live i o hi
    exact ⟨l, h1, h2.of_block (Below.heap_alloc _ _ _ (H.lt_of h1))⟩, H.inj, H.glob⟩
theorem Fr.beside {B : Nat} {ρ : Ren} {w : World} (ob : Obj) : Fr B ρ h w ρ h (w.alloc ob) :=
  ⟨fun _ _ _ h => h, rfl, rfl, rfl, by simp, Nat.min_le_right _ _, fun b hb _ => Below.heap_alloc _ _ _ hb, fun _ _ h => h, fun _ _ h => h, fun _ _ h => h⟩
/-- how a range over a function is left -/
def rangeQ (N r k : Nat) (L : Loop) (Q : MPost) (h' : Hp) : Prop := ∃ L' T', h'.get r = some (.loop k L' T') ∧ L'.state ≠ .busy ∧ L'.tmps = L.tmps ∧
  (match L'.pending with
  | none => Q .normal T' (h'.set r .dead) true
  | some .ret => Q .ret T' (h'.set r .dead) true
  | some (.exit i) => Q (.exit i) T' (h'.set r .dead) true
  | some (.goto i) => Q (.goto i) T' (h'.set r .dead) true
  | _ => False)
theorem AWpM.rangeFunc {ng : Nat} (hng : ng ≤ P.globals.size) {g : Operand} {ps : Array Tmp} {assign body : Code} {gf : Nat} {lb : Array Value} (hok : okO ng g = true) (hg : evo T g = .func (.func gf) #[] lb) (he : Enters P gf)
    (p : ∀ k L, L.state = .ready → L.pending = none → L.params = ps → L.assign = assign → L.body = body → L.tmps.size = N →
      ACalls P gf (.func (.yield k) #[] #[] :: lb.toList) (fun e h' => ∃ v, e = .ret v ∧ rangeQ N h.next k L Q h') (h.new h.next (.loop k L T))) : AWpM P N (.rangeFunc g ps assign body) Q T h false := fun s ρ w a hs H ht hm => by
  have hm : a.defers = [] := hm
  refine wpIn_rangeFunc fun fn hfn => ?_
  obtain ⟨L, hL⟩ : ∃ L : Loop, L = { state := .ready, pending := none, fn, tmps := a.tmps, params := ps, assign, body, defers := w.heap.size } := ⟨_, rfl⟩
  have hgv := evo_sound H hng ht hok
  rw [hg] at hgv
  obtain ⟨x', y', e1, e2, e3⟩ := hgv
  obtain rfl : x' = #[] := by
    have := VRA.iff.1 e2
    cases x' with | mk l => cases l with | nil => rfl | cons => obtain ⟨_, _, e, _⟩ | e := this <;> cases e
  let w0 := w.alloc (.deferred (some []))
  let w1 := w0.alloc (.loop L)
  have H0 : HR P ρ h w0 := H.beside _
  have hn : h.get h.next = none := H.next_none
  have hn2 : ρ h.next = none := H.none_of hn
  have hsz0 : w0.heap.size = w.heap.size + 1 := by simp [w0]
  have hor : OR ρ w1 ⟨w0.heap.size, 0, 0⟩ (.loop (w.heap.size + 1) L T) := ⟨rfl, hsz0, World.alloc_heap_new w0 _, by rw [hL]; exact ht.2⟩
  have H1 := H0.new hn (.loop (w.heap.size + 1) L T) (.loop L) 0 hor
  have F1 : Fr h.next ρ h w (ρ.put h.next ⟨w0.heap.size, 0, 0⟩) (h.new h.next (.loop (w.heap.size + 1) L T)) w1 := (Fr.beside (B := h.next) _).trans (Fr.new H0 hn (Nat.le_refl _) _ _ 0) (Nat.le_refl _)
  refine ⟨w.heap.size + 1, [{ target := .collected w.heap.size, args := #[] }], w1, { target := .fn (.func gf) y', args := #[.func (.yield (w.heap.size + 1)) #[] #[]] }, w1, gf, #[Value.func (.yield (w.heap.size + 1)) #[] #[]] ++ y', w1, ?_, ?_, fun _ _ => trivial, ?_, fun h => (by cases h), ?_⟩
  · have := run_enterLoop_outer (P := P) (w := w) fn a.tmps ps assign body
    rw [← hL] at this
    exact this
  · simp [resolve, e1, Act.eval, Deferred.ofValue]
    first | done | (have : a.eval g = .func (.func gf) #[] y' := e1; simp [Act.eval] at this; simp [this])
  · have := he (#[Value.func (.yield (w.heap.size + 1)) #[] #[]] ++ y') w1
    simp [invoke, this]
  · refine enter_in ?_
    have hv : VRL (ρ.put h.next ⟨w0.heap.size, 0, 0⟩) (.func (.yield (w.heap.size + 1)) #[] #[] :: lb.toList) (#[Value.func (.yield (w.heap.size + 1)) #[] #[]] ++ y').toList := by
      simp only [Array.toList_append]
      exact ⟨_, _, rfl, ⟨_, _, rfl, rfl, rfl⟩, VRL.mono (Ren.le_put hn2 _) _ _ (VRA.iff.1 e3)⟩
    refine (p (w.heap.size + 1) L (by rw [hL]) (by rw [hL]) (by rw [hL]) (by rw [hL]) (by rw [hL]) (by rw [hL]; exact ht.1) (ρ.put h.next ⟨w0.heap.size, 0, 0⟩) w1 _ H1 hv).mono ?_
    rintro e w3 ⟨e', ρ3, h3, q1, q2, q3, v, rfl, L', T', k1, k2, k3, k4⟩
    obtain ⟨c, rfl, _⟩ := q1
    obtain ⟨m1, m2, m3⟩ := q2.loop k1
    obtain ⟨LX, hLX⟩ : ∃ LX : Loop, LX = { L' with state := .exhausted } := ⟨_, rfl⟩
    obtain ⟨H4, F4⟩ := loop_gone (B := h.next) q2 k1 LX
    have hD1 : w1.heap[w.heap.size]? = some (.deferred (some [])) := (Below.heap_alloc w0 _ _ (by simp [w0])).trans (World.alloc_heap_new w _)
    have hown1 : ¬ Owned (ρ.put h.next ⟨w0.heap.size, 0, 0⟩) (h.new h.next (.loop (w.heap.size + 1) L T)) w.heap.size := by
      rintro ⟨i, o, l, o1, o2, o3, o4⟩
      unfold Ren.put at o3
      split at o3
      · cases o3; simp only at o4; omega
      · have := (H.dom i l o3).2; omega
    have mk1 : MK s (ρ.put h.next ⟨w0.heap.size, 0, 0⟩) (h.new h.next (.loop (w.heap.size + 1) L T)) w1 true [{ target := .collected w.heap.size, args := #[] }] := ⟨_, rfl, hs, hD1, hown1⟩
    have F := (F1.trans q3 F1.next).trans F4 (Nat.le_refl _)
    have mk4 := (mk1.fr q3).fr F4
    have ht4 : TR ρ3 T' N { a with defers := [{ target := .collected w.heap.size, args := #[] }] ++ a.defers } := ⟨ht.1, fun t => by
      have := m3 t
      rw [k3, hL] at this
      exact this⟩
    have hend := run_endLoop (P := P) m2 k2
    rw [← hLX] at hend
    refine ⟨_, _, hend, ?_⟩
    have hmk : MK s ρ3 (h3.set h.next .dead) (w3.putObj (w.heap.size + 1) (.loop LX)) true ([{ target := .collected w.heap.size, args := #[] }] ++ a.defers) := by rw [hm]; exact mk4
    cases hp : L'.pending with
    | none => rw [hp] at k4; exact ⟨.normal, ρ3, T', _, true, rfl, H4, F, ht4, hmk, k4⟩
    | some c =>
      rw [hp] at k4
      cases c with
      | exit i => exact wpIn_exit ⟨.exit _, ρ3, T', _, true, rfl, H4, F, ht4, hmk, k4⟩
      | ret => exact wpIn_ret ⟨.ret, ρ3, T', _, true, rfl, H4, F, ht4, hmk, k4⟩
      | goto i => exact wpIn_goto ⟨.goto _, ρ3, T', _, true, rfl, H4, F, ht4, hmk, k4⟩
      | _ => exact k4.elim
/-- how a body is left -/
def bodyM (E : Nat → Option TI) (fn : Func) (Q : AEnd → Hp → Prop) : MPost
  | .normal, T, h, _ | .ret, T, h, _ => ∃ r, resL E T h.get fn.results.toList = some r ∧ Q (.ret (oneV r)) h
  | _, _, _, _ => False
theorem ACalls.marks {E : Nat → Option TI} (hE : EnvOK P E) {f : FuncId} {fn : Func} {c : Code} {args : List Value} {Q : AEnd → Hp → Prop} (hf : P.funcs[f]? = some fn) (hb : fn.body = some c)
    (p : AWpM P (max args.length fn.ntmps) c (bodyM E fn Q) (argT args) h false) : ACalls P f args Q h := fun ρ w cs H hv => by
  refine (callsIn_wide (n := 0)).1 (callsIn_of_wp_marks (F := Fence.wide) hf hb trivial (wpIn_mono (p w.heap.size ρ w _ (Nat.le_refl _) H (argT_TR fn.ntmps hv) rfl) ?_) rfl)
  rintro e a' w' ⟨e', ρ', T', h', f', p1, p2, p3, p4, p5, p6⟩
  have fin : ∀ r, resL E T' h'.get fn.results.toList = some r → Q (.ret (oneV r)) h' → LeavesInM Fence.wide 0 P fn a'.tmps (fun e w' => ∃ e' ρ' h', EndR ρ' e' e ∧ HR P ρ' h' w' ∧ Fr h.next ρ h w ρ' h' w' ∧ Q e' h') a'.defers .returning w' := fun r k1 k2 => by
    cases f' with
    | false =>
      rw [show a'.defers = [] from p5]
      obtain ⟨v, k3, k4⟩ := results_sound hE p2 p4 k1
      exact ⟨v, k3, .ret (oneV r), ρ', h', ⟨v, rfl, k4⟩, p2, p3, k2⟩
    | true =>
      obtain ⟨D, hd, hs, hD, hn⟩ := p5
      rw [hd]
      have hb2 : ∀ b, b ≠ D → (w'.putObj D (.deferred none)).heap[b]? = w'.heap[b]? := fun b hb => World.putObj_heap_other hb
      have H5 : HR P ρ' h' (w'.putObj D (.deferred none)) := ⟨p2.lt, fun i l hi => ⟨(p2.dom i l hi).1, by rw [World.putObj_size]; exact (p2.dom i l hi).2⟩, fun i o hi => by
        obtain ⟨l, h1, h2⟩ := p2.live i o hi
        refine ⟨l, h1, ?_⟩
        by_cases hlD : l.blk = D
        · cases o with
          | cells c ro e => obtain ⟨cc, fr, k1, _⟩ := h2; rw [hlD, hD] at k1; cases k1
          | map es clock => obtain ⟨es', k1, _⟩ := h2; rw [hlD, hD] at k1; cases k1
          | iter m a b c => obtain ⟨_, m', k1, _⟩ := h2; rw [hlD, hD] at k1; cases k1
          | siter s p => obtain ⟨_, k1⟩ := h2; rw [hlD, hD] at k1; cases k1
          | loop k L T => obtain ⟨_, _, k1, _⟩ := h2; rw [hlD, hD] at k1; cases k1
          | dead => trivial
        · exact h2.of_block (hb2 _ hlD), p2.inj, p2.glob⟩
      have F5 : Fr h.next ρ h w ρ' h' (w'.putObj D (.deferred none)) := ⟨p3.le, p3.os, p3.tape, p3.output, by rw [World.putObj_size]; exact p3.size, p3.nxt, fun b hb ho => (hb2 b (by omega)).trans (p3.block b hb ho), p3.own, p3.held, p3.keep⟩
      obtain ⟨v, k3, k4⟩ := results_sound hE H5 p4 k1
      refine ⟨by simp, .inl ⟨D, _, rfl, run_takeDeferred hD, ?_⟩⟩
      exact ⟨v, k3, .ret (oneV r), ρ', h', ⟨v, rfl, k4⟩, H5, F5, k2⟩
  cases e' with
  | normal => cases p1; obtain ⟨r, k1, k2⟩ := p6; exact fin r k1 k2
  | ret => cases p1; obtain ⟨r, k1, k2⟩ := p6; exact fin r k1 k2
  | panic v => exact p6.elim
  | exit n => exact p6.elim
  | goto l => exact p6.elim
end
end Go.Ab
/- A call that is handed a slice of which the capacity is not known, and may take its row over. -/
namespace Go.Ab
open Go.RowKit
section
variable {P : Program} {h : Hp} {ρ : Ren} {w : World}
/-- less is told of a row -/
theorem HR.shrink {i e : Nat} {a b : List Value} (H : HR P ρ h w) (hi : h.get i = some (.cells (a ++ b) false e)) : HR P ρ (h.set i (.cells a false e)) w ∧ ∀ B, Fr B ρ h w ρ (h.set i (.cells a false e)) w := by
  obtain ⟨l, cc, fr, k1, k2, k3, k4, k5, k6⟩ := H.cells hi
  simp only [List.length_append] at k3
  refine ⟨H.put hi rfl k1 w rfl (fun _ _ => rfl) ⟨cc, fr, k2, by omega, k4, k5, fun j v hj => k6 j v ?_⟩, fun B => Fr.put hi rfl k1 w rfl rfl rfl rfl (fun _ _ => rfl)⟩
  rw [List.getElem?_append_left (List.getElem?_eq_some_iff.1 hj).1]
  exact hj
/-- the row from an offset on, under a number of its own -/
theorem HR.retake {g o e k' s n : Nat} {c xs : List Value} {l : Loc} (H : HR P ρ h w) (hg : h.get g = some (.cells c false e)) (hse : single e = false) (hl : ρ g = some l) (hld : ldN h.get ⟨g, o, none⟩ (n * s) = some xs) (hroom : o + k' * s ≤ l.room) (hnk : n ≤ k') :
    HR P (ρ.put h.next ⟨l.blk, l.off + o, l.room - o⟩) ((h.set g .dead).new h.next (.cells (xs ++ List.replicate (k' * s - n * s) junk) false e)) w ∧ Fr h.next ρ h w (ρ.put h.next ⟨l.blk, l.off + o, l.room - o⟩) ((h.set g .dead).new h.next (.cells (xs ++ List.replicate (k' * s - n * s) junk) false e)) w := by
  have hn := H.next_none
  obtain ⟨l', cc, fr, k1, k2, k3, k4, k5, k6⟩ := H.cells hg
  have k1 : ρ g = some l' := k1
  rw [hl] at k1; cases k1
  obtain ⟨lq, j1, olds, j2, j3, j4⟩ := ldN_sound H hld
  rw [hl] at j1; cases j1
  have hlen : xs.length = n * s := (ldN_spec hld).2.1
  have hmul : n * s ≤ k' * s := Nat.mul_le_mul_right _ hnk
  have ho : OR ρ w ⟨l.blk, l.off + o, l.room - o⟩ (.cells (xs ++ List.replicate (k' * s - n * s) junk) false e) := by
    refine ⟨cc, fr, k2, ?_, ?_, fun _ => ⟨fun hs => (by rw [hse] at hs; cases hs), (k5 rfl).2⟩, fun j v hj => ?_⟩
    · simp only [List.length_append, List.length_replicate, hlen]; omega
    · show l.off + o + (l.room - o) ≤ cc.size; omega
    · show ∃ v', cc[l.off + o + j]? = some v' ∧ VR ρ v v'
      by_cases hjn : j < n * s
      · rw [List.getElem?_append_left (by omega)] at hj
        obtain ⟨u, hu1, hu2⟩ := j2.get j v hj
        have hcell := j4 j u hu1
        rw [add_mk, sub_cell k2] at hcell
        exact ⟨u, hcell, hu2⟩
      · rw [List.getElem?_append_right (by omega), hlen] at hj
        have hlt := (List.getElem?_eq_some_iff.1 hj).1
        rw [List.length_replicate] at hlt
        rw [List.getElem?_replicate, if_pos hlt] at hj
        cases hj
        have hlt2 : l.off + o + j < cc.size := by omega
        exact ⟨cc[l.off + o + j], by simp [hlt2], trivial⟩
  exact ⟨H.take (l' := ⟨l.blk, l.off + o, l.room - o⟩) hg rfl hl hn rfl w rfl (fun _ _ => rfl) ho, Fr.take (l' := ⟨l.blk, l.off + o, l.room - o⟩) H hg rfl hl hn (Nat.le_refl _) rfl w rfl rfl rfl rfl (fun _ _ => rfl)⟩
theorem flats_fvl {R : Nat → Nat → Prop} : ∀ {l : List Value}, flats l = true → FVL R l l
  | [], _ => rfl
  | v :: l, h => by
    unfold flats at h
    cases hv : flat v with
    | false => rw [hv] at h; cases h
    | true =>
      rw [hv] at h
      refine ⟨v, l, rfl, ?_, flats_fvl h⟩
      cases v with
      | int k n => rfl
      | bool b => rfl
      | string s => rfl
      | float k b => rfl
      | complex k a b => rfl
      | pointer a => cases a with | none => rfl | some a => cases hv
      | slice a n c => cases a with | none => rfl | some a => cases hv
      | map r => cases r with | none => rfl | some a => cases hv
      | nilFunc => rfl
      | nilIface => rfl
      | chan r => cases r with | none => rfl | some a => cases hv
      | func f x y => cases hv
      | iface t v => cases hv
      | agg cs => cases hv
      | tuple cs => cases hv
/-- the heap with the row under a number of its own -/
def insH (h : Hp) (g e : Nat) (xs : List Value) (j : Nat) : Hp := (h.set g .dead).new h.next (.cells (xs ++ List.replicate j junk) false e)
theorem insH_next {h : Hp} {g e j : Nat} {xs : List Value} : (insH h g e xs j).next = h.next + 1 := by
  unfold insH
  rw [Hp.next_new, Hp.next_set]
  omega
theorem insH_get {h : Hp} {g e j i : Nat} {xs : List Value} : (insH h g e xs j).get i = if i = h.next then some (.cells (xs ++ List.replicate j junk) false e) else if i = g then some .dead else h.get i := rfl
theorem ACalls.insert {f : FuncId} {g o n s e n2 : Nat} {c xs new : List Value} {rest : List Value} (hg : h.get g = some (.cells c false e)) (hse : single e = false) (hld : ldN h.get ⟨g, o, none⟩ (n * s) = some xs) (hn : 0 < n) (hnew : flats new = true)
    (p : ∀ k', n ≤ k' → k' < U → ACalls P f (.slice (some ⟨h.next, 0, none⟩) n k' :: rest) (fun en h' =>
      (n2 ≤ k' ∧ en = .ret (.slice (some ⟨h.next, 0, none⟩) n2 k') ∧ ∃ b, h' = Ab.ov (insH h g e xs (k' * s - n * s)) [(h.next, .cells (new ++ b) false e)] [] 0) ∨
      (en = .ret (.slice (some ⟨loc (insH h g e xs (k' * s - n * s)) 0, 0, none⟩) n2 (U + s)) ∧ h' = Ab.ov (insH h g e xs (k' * s - n * s)) [] [(0, .cells new false e)] 1)) (insH h g e xs (k' * s - n * s))) :
    ACalls P f (.slice (some ⟨g, o, none⟩) n (U + s) :: rest) (fun en h' => en = .ret (.slice (some ⟨h.next, 0, none⟩) n2 (U + s)) ∧ h' = insH h g e new 0) h := fun ρ w cs H hv => by
  obtain ⟨c0, cs', e1, ⟨l, h1, h2, hsr⟩, hvr⟩ := hv
  have h1 : ρ g = some l := h1
  have hgn : g ≠ h.next := fun q => by have := H.next_none; rw [← q, hg] at this; cases this
  rcases hsr with ⟨k', e2, hk, hU, _⟩ | ⟨h0, _⟩
  · obtain ⟨hroom, hlt⟩ := hU (by omega)
    rw [U_add] at hroom
    have hroom : o + k' * s ≤ l.room := hroom
    obtain ⟨H1, F1⟩ := HR.retake H hg hse h1 hld hroom hk
    have hle := Ren.le_put (H.none_of H.next_none) ⟨l.blk, l.off + o, l.room - o⟩
    have hv1 : VRL (ρ.put h.next ⟨l.blk, l.off + o, l.room - o⟩) (.slice (some ⟨h.next, 0, none⟩) n k' :: rest) cs.toList := by
      rw [e1]
      refine ⟨c0, cs', rfl, ⟨⟨l.blk, l.off + o, l.room - o⟩, by simp [Ren.put], rfl, .inl ⟨k', e2, hk, fun hU => by omega, fun _ => rfl⟩⟩, VRL.mono hle _ _ hvr⟩
    refine (p k' hk hlt _ w cs H1 hv1).mono ?_
    rintro en w' ⟨e', ρ', h', k1, k2, k3, q⟩
    have hB : h.next ≤ (insH h g e xs (k' * s - n * s)).next := by rw [insH_next]; omega
    have F13 := F1.trans k3 hB
    have hnx0 : h.next < (insH h g e xs (k' * s - n * s)).next := by rw [insH_next]; omega
    rcases q with ⟨hn2, rfl, b, rfl⟩ | ⟨rfl, rfl⟩
    · -- the row was long enough
      obtain ⟨cv, rfl, l2, m1, m2, m3⟩ := k1
      have m1 : ρ' h.next = some l2 := m1
      have hgg : (Ab.ov (insH h g e xs (k' * s - n * s)) [(h.next, .cells (new ++ b) false e)] [] 0).get h.next = some (.cells (new ++ b) false e) := by rw [ov_low hnx0]; simp [lk]
      obtain ⟨H4, F4⟩ := HR.shrink k2 hgg
      have hc : (Ab.ov (insH h g e xs (k' * s - n * s)) [(h.next, .cells (new ++ b) false e)] [] 0).set h.next (.cells new false e) = insH h g e new 0 := by
        refine Hp.ext' (fun i => ?_) ?_
        · rw [Hp.get_set, insH_get]
          by_cases hi : i = h.next
          · rw [if_pos hi, if_pos hi]; simp
          · rw [if_neg hi, if_neg hi]
            by_cases hlt2 : i < (insH h g e xs (k' * s - n * s)).next
            · rw [ov_low hlt2]
              simp only [lk, if_neg (fun q : h.next = i => hi q.symm)]
              rw [insH_get, if_neg hi]
            · have hge : h.next + 1 ≤ i := by rw [insH_next] at hlt2; omega
              have hnone : h.get i = none := by
                cases q : h.get i with
                | none => rfl
                | some o => have := H.lt i (by rw [q]; simp); omega
              have : (Ab.ov (insH h g e xs (k' * s - n * s)) [(h.next, .cells (new ++ b) false e)] [] 0).get i = none := by
                unfold Ab.ov
                simp only [if_neg hlt2]
                rfl
              rw [this]
              split
              · rename_i q; rw [q] at hnone; rw [hg] at hnone; cases hnone
              · exact hnone.symm
        · show loc (insH h g e xs (k' * s - n * s)) 0 = _
          unfold loc
          rw [insH_next, insH_next]
      rw [hc] at H4 F4
      refine ⟨.ret (.slice (some ⟨h.next, 0, none⟩) n2 (U + s)), ρ', insH h g e new 0, ⟨cv, rfl, l2, m1, rfl, ?_⟩, H4, F13.trans (F4 h.next) (Nat.le_refl _), rfl, rfl⟩
      -- how the slice lies
      have hl2 : l2 = ⟨l.blk, l.off + o, l.room - o⟩ := by
        have := k3.le h.next (by show h.next < (insH h g e xs (k' * s - n * s)).next; exact hnx0) ⟨l.blk, l.off + o, l.room - o⟩ (by simp [Ren.put])
        rw [m1] at this
        exact Option.some.inj this
      rcases m3 with ⟨k2', q1, q2, q3, q4⟩ | ⟨q1, _⟩
      · obtain rfl : k2' = k' := q4 hlt
        refine .inl ⟨k2', q1, q2, fun _ => ⟨?_, hlt⟩, fun hU => by omega⟩
        rw [U_add, hl2]
        show 0 + k2' * s ≤ l.room - o
        omega
      · have : n2 = 0 := q1
        subst this
        rename_i q1
        obtain ⟨_, _, o', qe⟩ := q1
        all_goals first | exact .inr ⟨rfl, .inl (by omega), o', qe⟩ | (obtain ⟨hk0, o', qe⟩ := ‹_ ∧ _›; exact .inr ⟨rfl, .inl (by omega), o', qe⟩)
    · -- a new row
      have En := H.entry
      have hloc : loc (insH h g e xs (k' * s - n * s)) 0 = h.next + 1 := by unfold loc; rw [insH_next]
      have hFd : Fades P h.next (fun i => if i = h.next then h.next + 1 else i) (Ab.ov (insH h g e xs (k' * s - n * s)) [] [(0, .cells new false e)] 1) (insH h g e new 0) := by
        have hlow : ∀ i, i < h.next → (Ab.ov (insH h g e xs (k' * s - n * s)) [] [(0, .cells new false e)] 1).get i = if i = g then some .dead else h.get i := fun i hi => by
          rw [ov_low0 (by rw [insH_next]; omega), insH_get, if_neg (by omega)]
        have hsome : ∀ i, (insH h g e new 0).get i ≠ none → i = h.next ∨ i < h.next := fun i hi => by
          rw [insH_get] at hi
          by_cases q : i = h.next
          · exact .inl q
          · rw [if_neg q] at hi
            by_cases q2 : i = g
            · exact .inr (by rw [q2]; exact H.lt g (by rw [hg]; simp))
            · rw [if_neg q2] at hi
              exact .inr (H.lt i hi)
        refine ⟨fun i hi => if_neg (by omega), fun i j hi hj hij => ?_, fun i o' hi => ?_, fun i hi => ?_, by rw [insH_next]; omega, fun i hi hne => ?_, En.gl⟩
        · have a := hsome i hi
          have b := hsome j hj
          (try simp only at hij)
          split at hij <;> split at hij <;> omega
        · have a := hsome i (by rw [hi]; simp)
          by_cases q : i = h.next
          · rw [insH_get, if_pos q] at hi
            cases hi
            refine ⟨.cells new false e, ?_, ?_⟩
            · simp only [if_pos q]
              rw [← hloc, ov_loc]
              rfl
            · refine ⟨new, rfl, ?_⟩
              simp only [List.replicate, List.append_nil]
              exact flats_fvl hnew
          · have hlt2 : i < h.next := by omega
            rw [insH_get, if_neg q] at hi
            simp only [if_neg q]
            rw [hlow i hlt2]
            by_cases q2 : i = g
            · rw [if_pos q2] at hi ⊢
              cases hi
              exact ⟨.dead, rfl, trivial⟩
            · rw [if_neg q2] at hi ⊢
              refine ⟨o', hi, FO.mono ?_ (En.shut i o' hi)⟩
              rintro a b ⟨rfl, hne⟩
              have ha := H.lt a hne
              refine ⟨?_, if_neg (by omega)⟩
              rw [insH_get, if_neg (by omega)]
              split
              · simp
              · exact hne
        · have := hsome i hi
          rw [insH_next]
          omega
        · rw [insH_get, if_neg (by omega)]
          split
          · simp
          · rename_i q
            rw [hlow i hi, if_neg q] at hne
            exact hne
      have hQ : EndB P h (fun en h' => en = .ret (.slice (some ⟨h.next, 0, none⟩) n2 (U + s)) ∧ h' = insH h g e new 0) (.ret (.slice (some ⟨loc (insH h g e xs (k' * s - n * s)) 0, 0, none⟩) n2 (U + s))) (Ab.ov (insH h g e xs (k' * s - n * s)) [] [(0, .cells new false e)] 1) := by
        refine ⟨_, _, .slice (some ⟨h.next, 0, none⟩) n2 (U + s), hFd, ?_, rfl, rfl⟩
        refine ⟨_, rfl, ⟨?_, ?_⟩, rfl, rfl⟩
        · show (insH h g e new 0).get h.next ≠ none
          rw [insH_get, if_pos rfl]; simp
        · show (if h.next = h.next then h.next + 1 else h.next) = _
          rw [if_pos rfl, hloc]
      obtain ⟨e2, ρ2, h2, a1, a2, a3, a4⟩ := hQ.ends k2 k1
      exact ⟨e2, ρ2, h2, a1, a2, F13.trans a3 (Nat.le_refl _), a4⟩
  · omega
end
end Go.Ab
/- What happens behind a part of the code, by how it ended, with the rounds of loops told by relations. -/
namespace Go.Ab
theorem qR : type_of% (And.intro @qA (And.intro @roundR_normal (And.intro @roundR_exit (And.intro @roundR_goto (And.intro @roundR_ret @roundR_panic))))) := And.intro @qA (And.intro @roundR_normal (And.intro @roundR_exit (And.intro @roundR_goto (And.intro @roundR_ret @roundR_panic))))
end Go.Ab
/- Regions that ask for their order, where effects may come in more than one. -/
namespace Go.Ab
open Go.RowKit
inductive PTree where
  | line (p : List PStep)
  | fl (i : Nat) (o : Oper) (t : PTree)
  | stop
  | ef (j : Nat) (o : Oper) (deps : List Nat) (t alt : PTree)
def altsT (ops : Array Oper) (f : Nat → Option PTree) : List Nat → Option PTree
  | [] => some .stop
  | j :: l => (match ops[j]?, f j, altsT ops f l with | some o, some t, some a => some (.ef j o (depsOf ops j) t a) | _, _, _ => none)
def planT (pf : Nat → Bool) (ops : Array Oper) : Nat → Array Bool → Option PTree
  | 0, l => (match planOf pf ops 0 l with | some p => some (.line p) | none => none)
  | n + 1, l =>
    (match planOf pf ops (n + 1) l with
    | some p => some (.line p)
    | none =>
      (match Region.ready .any ops l with
      | [] => none
      | r :: rs =>
        (match findFl pf ops (r :: rs) with
        | some (i, o) => bif Region.free .any ops l i then (match planT pf ops n (l.setIfInBounds i true) with | some p => some (.fl i o p) | none => none) else none
        | none => altsT ops (fun j => planT pf ops n (l.setIfInBounds j true)) (r :: rs))))
section
variable (P : Program) (ops : List Oper) (Q : APost) (QP : Value → Hp → Prop)
def PLT : PTree → List LP → (Nat → Value) → Hp → Prop
  | .line p, L, T, h => PL P ops Q QP p L T h
  | .stop, _, _, _ => True
  | .fl i o p, L, T, h =>
    (wantA ops T o = true ∧ ∃ v, FloatX P o T v h ∧ PLT p (bif pureOp o.op then L else ⟨i, o, T, v⟩ :: L) (putT T o.dst v) h) ∨
    (wantA ops T o = false ∧ gK ops T o = true ∧ PLT p L (putT T o.dst undef) h)
  | .ef _ o deps p a, L, T, h =>
    ((wantA ops T o = true ∧ AOne P o T h (fun v h' => ReF P h' deps L ∧ PLT p (left deps L) (putT T o.dst v) h') QP) ∨
    (wantA ops T o = false ∧ gK ops T o = true ∧ PLT p L (putT T o.dst undef) h)) ∧ PLT a L T h
end
section
variable {P : Program} {Q : APost} {QP : Value → Hp → Prop}
theorem altsT_spec {ops : Array Oper} {f : Nat → Option PTree} {L : List LP} {T : Nat → Value} {h : Hp} : ∀ {l : List Nat} {a : PTree}, altsT ops f l = some a → PLT P ops.toList Q QP a L T h → ∀ j ∈ l, ∃ o p, ops[j]? = some o ∧ f j = some p ∧
    ((wantA ops.toList T o = true ∧ AOne P o T h (fun v h' => ReF P h' (depsOf ops j) L ∧ PLT P ops.toList Q QP p (left (depsOf ops j) L) (putT T o.dst v) h') QP) ∨ (wantA ops.toList T o = false ∧ gK ops.toList T o = true ∧ PLT P ops.toList Q QP p L (putT T o.dst undef) h))
  | [], _, _, _, j, hj => by cases hj
  | x :: l, a, ha, q, j, hj => by
    unfold altsT at ha
    split at ha
    · rename_i o t a' ho ht ha'
      cases ha
      unfold PLT at q
      cases hj with
      | head => exact ⟨o, t, ho, ht, q.1⟩
      | tail _ hj => exact altsT_spec ha' q.2 j hj
    · cases ha
theorem PLT.sound {pf : Nat → Bool} {ops : Array Oper} :
    ∀ (m : Nat) (l : Array Bool) (p : PTree) (L : List LP) (T : Nat → Value) (h : Hp), planT pf ops m l = some p → Closed ops l → SLP P pf ops L l h → PLT P ops.toList Q QP p L T h →
    DAny P ops Q QP (SLP P pf ops L) m l T h := by
  intro m
  induction m with
  | zero =>
    intro l p L T h hp hc hs q
    unfold planT at hp
    split at hp
    · rename_i p' hp'
      cases hp
      exact PL.sound 0 l p' L T h hp' hc hs q
    · cases hp
  | succ m ih =>
    intro l p L T h hp hc hs q
    unfold planT at hp
    split at hp
    · rename_i p' hp'
      cases hp
      exact PL.sound _ l p' L T h hp' hc hs q
    split at hp
    · cases hp
    · rename_i r rs hr
      split at hp
      · rename_i i o hfl
        obtain ⟨hi, ho, hof⟩ := findFl_spec hfl
        rw [← hr] at hi
        cases hfree : Region.free .any ops l i with
        | false => rw [hfree] at hp; cases hp
        | true =>
          rw [hfree] at hp
          simp only [cond_true] at hp
          split at hp
          · rename_i p' hp'
            cases hp
            have hil : l.getD i true = false := (mem_ready.1 hi).1
            have hset : ∀ (l' : Array Bool) (j : Nat) (oj : Oper), ops[j]? = some oj → isFlX pf oj.op = false → (l'.setIfInBounds i true).getD j false = l'.getD j false := fun l' j oj hj hjf => by
              refine getD_set_ne false ?_
              intro e
              subst e
              rw [ho] at hj
              cases hj
              rw [hof] at hjf
              cases hjf
            have hS1 : ∀ (L : List LP) l' h', SLP P pf ops L (l'.setIfInBounds i true) h' → SLP P pf ops L l' h' := fun L l' h' q e he hn => q e he fun j oj hj hjf hd => by rw [hset l' j oj hj hjf]; exact hn j oj hj hjf hd
            have hS2 : ∀ (L : List LP) l' h', SLP P pf ops L l' h' → SLP P pf ops L (l'.setIfInBounds i true) h' := fun L l' h' q e he hn => q e he fun j oj hj hjf hd => by have := hn j oj hj hjf hd; rw [hset l' j oj hj hjf] at this; exact this
            unfold PLT at q
            rcases q with ⟨hw, v, hf, q⟩ | ⟨hw, hk, q⟩
            · cases hpu : pureOp o.op with
              | true =>
                rw [hpu] at q
                simp only [cond_true] at q
                unfold FloatX at hf
                rw [hpu] at hf
                simp only [cond_true] at hf
                have dn := ih _ p' L _ h hp' (hc.add hi) (hS2 L l h hs) q
                refine DAny.first (v := v) (T0 := T) ho (hS1 L) (hS2 L) ?_ m l T h (Region.free_spec ho hfree) hi hc agree.refl hs dn
                intro l' T' h' _ _ _ ha
                have hw' := ha.want
                rw [hw] at hw'
                exact ⟨fun _ => ((hf h').anyE (R := fun v' h2 => v' = v ∧ h2 = h') ⟨rfl, rfl⟩ : AOne P o T h' _ _).congr ha.evo, fun e => (by rw [← hw'] at e; cases e)⟩
              | false =>
                rw [hpu] at q
                simp only [cond_false] at q
                unfold FloatX at hf
                rw [hpu] at hf
                simp only [cond_false] at hf
                have hs' : SLP P pf ops (⟨i, o, T, v⟩ :: L) l h := fun e he hn => by
                  cases he with
                  | head => exact hf
                  | tail _ he => exact hs e he hn
                have dn := ih _ p' (⟨i, o, T, v⟩ :: L) _ h hp' (hc.add hi) (hS2 _ l h hs') q
                refine DAny.mono (S := SLP P pf ops (⟨i, o, T, v⟩ :: L)) (fun l' h' q e he => q e (List.mem_cons_of_mem _ he)) _ ?_
                refine DAny.first (v := v) (T0 := T) ho (hS1 _) (hS2 _) ?_ m l T h (Region.free_spec ho hfree) hi hc agree.refl hs' dn
                intro l' T' h' q hcl hrl ha
                have hw' := ha.want
                rw [hw] at hw'
                have hri := (mem_ready.1 hrl).1
                have hrun := q ⟨i, o, T, v⟩ List.mem_cons_self fun j oj hj hjf hd => by
                  cases hlj : l'.getD j false with
                  | false => rfl
                  | true =>
                    have := depB_closed hcl _ _ _ hd hlj
                    simp only [Array.getD_eq_getD_getElem?] at this hri
                    cases hx : l'[i]? with
                    | none => rw [hx] at this; cases this
                    | some b => rw [hx] at this hri; simp only [Option.getD_some] at this hri; rw [this] at hri; cases hri
                exact ⟨fun _ => (hrun.anyE (R := fun v' h2 => v' = v ∧ h2 = h') ⟨rfl, rfl⟩ : AOne P o T h' _ _).congr ha.evo, fun e => (by rw [← hw'] at e; cases e)⟩
            · have dn := ih _ p' L _ h hp' (hc.add hi) (hS2 L l h hs) q
              refine DAny.first (v := undef) (T0 := T) ho (hS1 L) (hS2 L) ?_ m l T h (Region.free_spec ho hfree) hi hc agree.refl hs dn
              intro l' T' h' _ _ _ ha
              have := ha.want
              rw [hw] at this
              rw [← this]
              exact ⟨fun e => (by cases e), fun _ => ⟨ha.gk ▸ hk, rfl⟩⟩
          · cases hp
      · rename_i hfl
        refine ⟨fun h0 => (by rw [hr] at h0; cases h0), fun r' hi o' ho' => ?_⟩
        rw [hr] at hi
        obtain ⟨o, p', ho, hp', q⟩ := altsT_spec hp q r' hi
        rw [ho] at ho'
        have e0 : o = o' := Option.some.inj ho'
        subst e0
        rw [← hr] at hi
        have hnf := findFl_none hfl r' (by rw [hr] at hi; exact hi) o ho
        have hil : l.getD r' true = false := (mem_ready.1 hi).1
        have hilt : r' < l.size := by
          rcases Nat.lt_or_ge r' l.size with h' | h'
          · exact h'
          · simp [Array.getElem?_eq_none h'] at hil
        have hlr : (l.setIfInBounds r' true).getD r' false = true := by simp [hilt]
        -- behind the effect
        have key : ∀ (h' : Hp), ReF P h' (depsOf ops r') L → SLP P pf ops L (l.setIfInBounds r' true) h' := by
          intro h' k1 e he hn
          cases hm : memN e.i (depsOf ops r') with
          | false => exact k1.spec e he hm
          | true =>
            have := hn r' o ho hnf (depsOf_spec hm)
            rw [hlr] at this
            cases this
        have down : ∀ (T : Nat → Value) (h' : Hp), DAny P ops Q QP (SLP P pf ops (left (depsOf ops r') L)) m (l.setIfInBounds r' true) T h' → DAny P ops Q QP (SLP P pf ops L) m (l.setIfInBounds r' true) T h' := by
          intro T h' d
          refine DAny.monoAt (j := r') ?_ m hlr d
          intro l2 h2 hl2 q e he hn
          cases hm : memN e.i (depsOf ops r') with
          | false => exact q e (left_spec.2 ⟨he, hm⟩) hn
          | true =>
            have := hn r' o ho hnf (depsOf_spec hm)
            rw [hl2] at this
            cases this
        refine ⟨fun hw => ?_, fun hw => ?_⟩
        · rcases q with ⟨_, q⟩ | ⟨hw', _⟩
          · refine q.mono ?_
            rintro v h' ⟨k1, k2⟩
            have hs' : SLP P pf ops (left (depsOf ops r') L) (l.setIfInBounds r' true) h' := fun e he _ => by
              obtain ⟨a, b⟩ := left_spec.1 he
              exact k1.spec e a b
            exact ⟨key h' k1, down _ _ (ih _ p' _ _ _ hp' (hc.add hi) hs' k2)⟩
          · rw [hw] at hw'; cases hw'
        · rcases q with ⟨hw', _⟩ | ⟨_, hk, q⟩
          · rw [hw] at hw'; cases hw'
          · have hs2 : SLP P pf ops L (l.setIfInBounds r' true) h := fun e he hn => hs e he fun j oj hj hjf hd => by
              cases hlj : l.getD j false with
              | false => rfl
              | true => have := getD_set_true (i := r') hlj; rw [hn j oj hj hjf hd] at this; cases this
            exact ⟨hk, hs2, ih _ p' L _ h hp' (hc.add hi) hs2 q⟩
end
section
variable {P : Program} {ng B N : Nat} {Q : APost} {T T' : Nat → Value} {h h' : Hp}
theorem CWp.drawT (pf : Nat → Bool) {QP : Value → Hp → Prop} {id : Nat} {ops : Array Oper} {p : PTree} (X : Good P ng) (hp : planT pf ops ops.size (Array.replicate ops.size false) = some p) (hQ : ∀ v T h, QP v h → Q (.panic v) T h)
    (q : PLT P ops.toList Q QP p [] T h) : CWp P ng B N (.region id ops true) Q T h := fun hok => BWp.of (AWp.draw X.mo X.ng hQ
      (fun i o hi => okOps_mem (l := ops.toList) hok (by rw [← Array.getElem?_toList] at hi; exact List.mem_of_getElem? hi))
      (PLT.sound (pf := pf) _ _ p [] T h hp (fun i o _ h => by
        rw [Array.getD_eq_getD_getElem?, Array.getElem?_replicate] at h
        split at h <;> cases h) (fun e he => by cases he) q))
variable {ops : List Oper} {o : Oper} {QP : Value → Hp → Prop} {p a : PTree} {L : List LP} {i : Nat} {deps : List Nat}
theorem PLT.fl {v : Value} (hw : wantA ops T o = true) (hr : opA (tiOf P) T h.get h.next o.op = some (v, .keep)) (hT : putT T o.dst v = T') (q : PLT P ops Q QP p (bif pureOp o.op then L else ⟨i, o, T, v⟩ :: L) T' h) : PLT P ops Q QP (.fl i o p) L T h := by
  subst hT
  exact .inl ⟨hw, v, FloatX.op (fun _ _ h => h) hr, q⟩
theorem PLT.ef {v : Value} {e : HE} (hw : wantA ops T o = true) (hr : opA (tiOf P) T h.get h.next o.op = some (v, e)) (hT : putT T o.dst v = T') (hh : e.app h.next h = h') (hre : ReF P h' deps L) (q : PLT P ops Q QP p (left deps L) T' h') (qa : PLT P ops Q QP a L T h) : PLT P ops Q QP (.ef i o deps p a) L T h := by
  subst hT
  subst hh
  exact ⟨.inl ⟨hw, AOne.op (fun _ _ h => h) hr ⟨hre, q⟩⟩, qa⟩
theorem PLT.efcall {c : Call} {f : Operand} {g : FuncId} {x y : Array Value} {as : List Value} {R : AEnd → Hp → Prop} (hw : wantA ops T o = true) (hop : o.op = .call c) (hc : c.callee = .value f) (hf : evo T f = .func (.func g) x y) (hg : Enters P g)
    (ha : x.toList ++ (evL T c.args.toList ++ y.toList) = as) (K : ACalls P g as R h) (hv : ∀ v h', R (.ret v) h' → ReF P h' deps L ∧ PLT P ops Q QP p (left deps L) (putT T o.dst v) h') (hp : ∀ v h', R (.panic v) h' → QP v h') (qa : PLT P ops Q QP a L T h) : PLT P ops Q QP (.ef i o deps p a) L T h := by
  subst ha
  refine ⟨.inl ⟨hw, AOne.call hop hc hf hg (K.mono fun e h' r => ?_)⟩, qa⟩
  cases e with
  | ret v => exact hv v h' r
  | panic v => exact hp v h' r
theorem PLT.stop : PLT P ops Q QP .stop L T h := trivial
theorem PLT.line {p : List PStep} (q : PL P ops Q QP p L T h) : PLT P ops Q QP (.line p) L T h := q
end
/-- a tree by its numbers: floats, then the effects that may come -/
def branchT (ops : Array Oper) : List (Nat × List (Nat × Bool)) → PTree
  | [] => .stop
  | (j, l) :: bs => (match nth ops.toList j with | some o => .ef j o (depsOf ops j) (.line (stepsOf ops l)) (branchT ops bs) | none => .stop)
def treeOf (ops : Array Oper) : List Nat → List (Nat × List (Nat × Bool)) → PTree
  | [], bs => branchT ops bs
  | i :: l, bs => (match nth ops.toList i with | some o => .fl i o (treeOf ops l bs) | none => .stop)
theorem CWp.drawJ {P : Program} {ng B N : Nat} {Q : APost} {T : Nat → Value} {h : Hp} (X : Good P ng) (pf : Nat → Bool) {id : Nat} {ops : Array Oper} (l : List Nat) (bs : List (Nat × List (Nat × Bool))) (hp : planT pf ops ops.size (Array.replicate ops.size false) = some (treeOf ops l bs))
    (hQ : ∀ v T h, Q (.panic v) (tl []) h → Q (.panic v) T h) (q : PLT P ops.toList Q (fun v h => Q (.panic v) (tl []) h) (treeOf ops l bs) [] T h) : CWp P ng B N (.region id ops true) Q T h :=
  CWp.drawT pf X hp hQ q
end Go.Ab
