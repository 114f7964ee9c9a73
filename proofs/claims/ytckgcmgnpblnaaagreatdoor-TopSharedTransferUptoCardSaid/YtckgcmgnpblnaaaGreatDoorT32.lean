/- A part of the proof of a law over a given program: T8, T9. -/
import Derived.Test.YtckgcmgnpblnaaaGreatDoorT31
set_option linter.unusedVariables false
set_option linter.unusedSimpArgs false
namespace Go.Ab
open Go.Proofs
set_option maxRecDepth 10000
set_option maxHeartbeats 4000000 in
theorem f23s (k : Int) (h : Hp) : ACalls Tryz.prog 23 [.int .i64 k] (IntsErr h) h := by
  (refine ACalls.bodyB (fn := Tryz.f23) (ng := 4) (N := 28) (res := [.tmp 2, .tmp 3]) (by kernel_rfl) rfl rfl rfl (by kernel_rfl) (fun En hs => ?_); simp only [argsL, Nat.reduceAdd])
  clear hs
  ((repeat refine CWp.seq ?_); refine CWp.region ?_)
  repeat (first | refine RL.w good ?_ | refine RL.k ?_)
  refine RL.nil ?_
  (try simp (disch := omega) only [qA])
  ((repeat refine CWp.seq ?_); refine CWp.region ?_)
  repeat (first | refine RL.w good ?_ | refine RL.k ?_)
  (refine' RL.c good ?_ ?_ ?_; rotate_left)
  · exact f41s _ _ _ _
  · rintro v' h' ⟨e, rfl⟩
    cases e
    simp only [push_cast]
    cases hb : btw 0 k 7
    · repeat (first | refine RL.w good ?_ | refine RL.k ?_)
      refine RL.nil ?_
      (try simp (disch := omega) only [qA])
      ((repeat refine CWp.seq ?_); refine CWp.cnd good ?_ ?_)
      · intro _
        ((repeat refine CWp.seq ?_); refine CWp.region ?_)
        repeat (first | refine RL.w good ?_ | refine RL.k ?_)
        refine RL.nil ?_
        (refine CWp.ret ?_; (try simp (disch := omega) only [qA]); refine rtB ?_; (try simp only [oneV]))
        exact EndB.plain En rfl ⟨[], _, _, rfl, .inl ⟨rfl, rfl, rfl⟩, by simp⟩
      · intro hc; cases hc
    · repeat (first | refine RL.w good ?_ | refine RL.k ?_)
      refine RL.nil ?_
      (try simp (disch := omega) only [qA])
      ((repeat refine CWp.seq ?_); refine CWp.cnd good ?_ ?_)
      · intro hc; cases hc
      · intro _
        (refine CWp.skip ?_; (try simp (disch := omega) only [qA]))
        ((repeat refine CWp.seq ?_); refine CWp.region ?_)
        repeat (first | refine RL.w good ?_ | refine RL.k ?_)
        refine RL.nil ?_
        (try simp (disch := omega) only [qA])
        ((repeat refine CWp.seq ?_); refine CWp.region ?_)
        repeat (first | refine RL.w good ?_ | refine RL.k ?_)
        refine RL.nil ?_
        (try simp (disch := omega) only [qA])
        ((repeat refine CWp.seq ?_); refine CWp.block ?_)
        refine CWp.loop (fun (s : Nat × List Int) => (tl [(0, .int .i64 k), (4, outV h 1 s.2.length), (5, .int .i64 ((s.1 : Int) + 1))], ov h [] (outL 3 s.2 s.2.length) (outK s.2.length))) (fun s => 46 - s.1) (fun s => s.1 ≤ 46 ∧ s.2.length ≤ s.1) (0, []) ⟨by omega, Nat.le_refl 0⟩ ?_ ?_
        · ((try dsimp only); apply fades_to En []; (· (repeat (refine And.intro ?_ ?_; (· ((try simp only [push_cast, reduceIte, Nat.reduceEqDiff, *]) <;> first | exact rfl | exact SV.fv En (by assumption) | exact ⟨_, rfl, Rn_loc ⟨_, rfl⟩ rfl, rfl, rfl⟩ | exact ⟨_, _, rfl, rfl, rfl⟩ | exact congrArg (Value.int _) (by omega))))) <;> exact trivial); (· exact trivial); (· exact trivial); (· (repeat (refine And.intro ⟨by decide, _, _, rfl, rfl, ?_⟩ ?_; (· (first | exact ⟨_, rfl, flatsFV rfl⟩ | exact ⟨_, rfl, intsFVL _⟩ | (refine ⟨_, rfl, ?_⟩; (repeat (refine ⟨_, _, rfl, ?_, ?_⟩; (· (first | exact rfl | exact SV.fv En (by assumption) | exact ⟨_, rfl, Rn_loc ⟨_, rfl⟩ rfl, rfl, rfl⟩ | exact ⟨_, _, rfl, rfl, rfl⟩ | exact congrArg (Value.int _) (by omega))))); exact rfl))))) <;> exact trivial); (· exact rfl))
        · rintro ⟨i, r⟩ ⟨h1, h2⟩
          dsimp only at h1 h2 ⊢
          by_cases hi0 : r.length = 0
          · obtain rfl : r = [] := List.length_eq_zero_iff.1 hi0
            rw [show outV h 1 ([] : List Int).length = .slice none 0 0 from rfl, show outL 3 [] ([] : List Int).length = [] from rfl, show outK ([] : List Int).length = 0 from rfl]
            ((repeat refine CWp.seq ?_); refine CWp.region ?_)
            repeat (first | refine RL.w good ?_ | refine RL.k ?_)
            refine RL.nil ?_
            (try simp (disch := omega) only [qA])
            ((repeat refine CWp.seq ?_); refine CWp.cnd good ?_ ?_)
            · (intro hc; (try simp only [decide_eq_true_eq, decide_eq_false_iff_not, Bool.not_eq_true, Bool.not_eq_false, Int.not_lt, Int.not_le, bne_iff_ne, beq_iff_eq, ne_eq, Bool.not_eq_eq_eq_not, Bool.not_true, Bool.not_false] at hc))
              (refine CWp.skip ?_; (try simp (disch := omega) only [qA]))
              ((repeat refine CWp.seq ?_); refine CWp.block ?_)
              ((repeat refine CWp.seq ?_); refine CWp.region ?_)
              repeat (first | refine RL.w good ?_ | refine RL.k ?_)
              (refine' RL.c good ?_ ?_ ?_; rotate_left)
              · exact f47s _ _ (fun l hl => by have := first_len hl; omega)
              · rintro v' h' ⟨e, rfl⟩
                cases e
                simp only [push_cast]
                generalize (distF ((i : Int) + 1)).1 = d1
                generalize (distF ((i : Int) + 1)).2 = d2
                repeat (first | refine RL.w good ?_ | refine RL.k ?_)
                refine RL.nil ?_
                (try simp (disch := omega) only [qA])
                ((repeat refine CWp.seq ?_); refine CWp.region ?_)
                repeat (first | refine RL.w good ?_ | refine RL.k ?_)
                refine RL.nil ?_
                (try simp (disch := omega) only [qA])
                ((repeat refine CWp.seq ?_); refine CWp.cnd good ?_ ?_)
                · intro _
                  ((repeat refine CWp.seq ?_); refine CWp.region ?_)
                  repeat (first | refine RL.w good ?_ | refine RL.k ?_)
                  refine RL.nil ?_
                  (try simp (disch := omega) only [qA])
                  ((repeat refine CWp.seq ?_); refine CWp.region ?_)
                  repeat (first | refine RL.w good ?_ | refine RL.k ?_)
                  refine RL.nil ?_
                  (try simp (disch := omega) only [qA])
                  refine ⟨(i + 1, [(i : Int) + 1]), ⟨by (try dsimp only); omega, by simp⟩, by (try dsimp only); omega, ?_⟩
                  dsimp only
                  rw [show outV h 1 [(i : Int) + 1].length = .slice (some ⟨loc h 0, 0, none⟩) 1 (U + 1) from rfl, show outL 3 [(i : Int) + 1] [(i : Int) + 1].length = [(0, .cells (ints [(i : Int) + 1]) false 3)] from rfl, show outK [(i : Int) + 1].length = 1 from rfl]
                  ((try dsimp only); apply fades_to En [(0, 1)]; (· (repeat (refine And.intro ?_ ?_; (· ((try simp only [push_cast, reduceIte, Nat.reduceEqDiff, *]) <;> first | exact rfl | exact SV.fv En (by assumption) | exact ⟨_, rfl, Rn_loc ⟨_, rfl⟩ rfl, rfl, rfl⟩ | exact ⟨_, _, rfl, rfl, rfl⟩ | exact congrArg (Value.int _) (by omega))))) <;> exact trivial); (· exact trivial); (· exact trivial); (· (repeat (refine And.intro ⟨by decide, _, _, rfl, rfl, ?_⟩ ?_; (· (first | exact ⟨_, rfl, flatsFV rfl⟩ | exact ⟨_, rfl, intsFVL _⟩ | (refine ⟨_, rfl, ?_⟩; (repeat (refine ⟨_, _, rfl, ?_, ?_⟩; (· (first | exact rfl | exact SV.fv En (by assumption) | exact ⟨_, rfl, Rn_loc ⟨_, rfl⟩ rfl, rfl, rfl⟩ | exact ⟨_, _, rfl, rfl, rfl⟩ | exact congrArg (Value.int _) (by omega))))); exact rfl))))) <;> exact trivial); (· exact rfl))
                · intro _
                  (refine CWp.skip ?_; (try simp (disch := omega) only [qA]))
                  ((repeat refine CWp.seq ?_); refine CWp.region ?_)
                  repeat (first | refine RL.w good ?_ | refine RL.k ?_)
                  refine RL.nil ?_
                  (try simp (disch := omega) only [qA])
                  refine ⟨(i + 1, []), ⟨by (try dsimp only); omega, by simp⟩, by (try dsimp only); omega, ?_⟩
                  dsimp only
                  rw [show outV h 1 ([] : List Int).length = .slice none 0 0 from rfl, show outL 3 [] ([] : List Int).length = [] from rfl, show outK ([] : List Int).length = 0 from rfl]
                  ((try dsimp only); apply fades_to En []; (· (repeat (refine And.intro ?_ ?_; (· ((try simp only [push_cast, reduceIte, Nat.reduceEqDiff, *]) <;> first | exact rfl | exact SV.fv En (by assumption) | exact ⟨_, rfl, Rn_loc ⟨_, rfl⟩ rfl, rfl, rfl⟩ | exact ⟨_, _, rfl, rfl, rfl⟩ | exact congrArg (Value.int _) (by omega))))) <;> exact trivial); (· exact trivial); (· exact trivial); (· (repeat (refine And.intro ⟨by decide, _, _, rfl, rfl, ?_⟩ ?_; (· (first | exact ⟨_, rfl, flatsFV rfl⟩ | exact ⟨_, rfl, intsFVL _⟩ | (refine ⟨_, rfl, ?_⟩; (repeat (refine ⟨_, _, rfl, ?_, ?_⟩; (· (first | exact rfl | exact SV.fv En (by assumption) | exact ⟨_, rfl, Rn_loc ⟨_, rfl⟩ rfl, rfl, rfl⟩ | exact ⟨_, _, rfl, rfl, rfl⟩ | exact congrArg (Value.int _) (by omega))))); exact rfl))))) <;> exact trivial); (· exact rfl))
              · rintro v h' ⟨e, _⟩; cases e
            · (intro hc; (try simp only [decide_eq_true_eq, decide_eq_false_iff_not, Bool.not_eq_true, Bool.not_eq_false, Int.not_lt, Int.not_le, bne_iff_ne, beq_iff_eq, ne_eq, Bool.not_eq_eq_eq_not, Bool.not_true, Bool.not_false] at hc))
              (refine CWp.exit ?_; (try simp (disch := omega) only [qA]))
              ((repeat refine CWp.seq ?_); refine CWp.region ?_)
              repeat (first | refine RL.w good ?_ | refine RL.k ?_)
              refine RL.nil ?_
              (try simp (disch := omega) only [qA])
              (refine CWp.ret ?_; (try simp (disch := omega) only [qA]); refine rtB ?_; (try simp only [oneV]))
              exact EndB.plain En rfl ⟨[], _, _, rfl, .inl ⟨rfl, rfl, rfl⟩, by simp⟩
          · rw [show outV h 1 r.length = .slice (some ⟨loc h 0, 0, none⟩) r.length (U + 1) from if_neg hi0, show outL 3 r r.length = [(0, .cells (ints r) false 3)] from if_neg hi0, show outK r.length = 1 from if_neg hi0]
            have hpos : 0 < r.length := by omega
            ((repeat refine CWp.seq ?_); refine CWp.region ?_)
            repeat (first | refine RL.w good ?_ | refine RL.k ?_)
            refine RL.nil ?_
            (try simp (disch := omega) only [qA])
            ((repeat refine CWp.seq ?_); refine CWp.cnd good ?_ ?_)
            · (intro hc; (try simp only [decide_eq_true_eq, decide_eq_false_iff_not, Bool.not_eq_true, Bool.not_eq_false, Int.not_lt, Int.not_le, bne_iff_ne, beq_iff_eq, ne_eq, Bool.not_eq_eq_eq_not, Bool.not_true, Bool.not_false] at hc))
              (refine CWp.skip ?_; (try simp (disch := omega) only [qA]))
              ((repeat refine CWp.seq ?_); refine CWp.block ?_)
              ((repeat refine CWp.seq ?_); refine CWp.region ?_)
              repeat (first | refine RL.w good ?_ | refine RL.k ?_)
              (refine' RL.c good ?_ ?_ ?_; rotate_left)
              · exact f47s _ _ (fun l hl => by have := first_len hl; omega)
              · rintro v' h' ⟨e, rfl⟩
                cases e
                simp only [push_cast]
                generalize (distF ((i : Int) + 1)).1 = d1
                generalize (distF ((i : Int) + 1)).2 = d2
                repeat (first | refine RL.w good ?_ | refine RL.k ?_)
                refine RL.nil ?_
                (try simp (disch := omega) only [qA])
                ((repeat refine CWp.seq ?_); refine CWp.region ?_)
                repeat (first | refine RL.w good ?_ | refine RL.k ?_)
                refine RL.nil ?_
                (try simp (disch := omega) only [qA])
                ((repeat refine CWp.seq ?_); refine CWp.cnd good ?_ ?_)
                · intro _
                  ((repeat refine CWp.seq ?_); refine CWp.region ?_)
                  repeat (first | refine RL.w good ?_ | refine RL.k ?_)
                  refine RL.nil ?_
                  (try simp (disch := omega) only [qA])
                  ((repeat refine CWp.seq ?_); refine CWp.region ?_)
                  repeat (first | refine RL.w good ?_ | refine RL.k ?_)
                  refine RL.nil ?_
                  (try simp (disch := omega) only [qA])
                  refine ⟨(i + 1, r ++ [(i : Int) + 1]), ⟨by (try dsimp only); omega, by simp only [List.length_append, List.length_cons, List.length_nil]; omega⟩, by (try dsimp only); omega, ?_⟩
                  dsimp only
                  have e1 : (r ++ [(i : Int) + 1]).length = r.length + 1 := by simp
                  rw [e1, show outV h 1 (r.length + 1) = .slice (some ⟨loc h 0, 0, none⟩) (r.length + 1) (U + 1) from rfl, show outL 3 (r ++ [(i : Int) + 1]) (r.length + 1) = [(0, .cells (ints (r ++ [(i : Int) + 1])) false 3)] from rfl, show outK (r.length + 1) = 1 from rfl]
                  ((try dsimp only); apply fades_to En [(0, 2)]; (· (repeat (refine And.intro ?_ ?_; (· ((try simp only [push_cast, reduceIte, Nat.reduceEqDiff, *]) <;> first | exact rfl | exact SV.fv En (by assumption) | exact ⟨_, rfl, Rn_loc ⟨_, rfl⟩ rfl, rfl, rfl⟩ | exact ⟨_, _, rfl, rfl, rfl⟩ | exact congrArg (Value.int _) (by omega))))) <;> exact trivial); (· exact trivial); (· exact trivial); (· (repeat (refine And.intro ⟨by decide, _, _, rfl, rfl, ?_⟩ ?_; (· (first | exact ⟨_, rfl, flatsFV rfl⟩ | exact ⟨_, rfl, intsFVL _⟩ | (refine ⟨_, rfl, ?_⟩; (repeat (refine ⟨_, _, rfl, ?_, ?_⟩; (· (first | exact rfl | exact SV.fv En (by assumption) | exact ⟨_, rfl, Rn_loc ⟨_, rfl⟩ rfl, rfl, rfl⟩ | exact ⟨_, _, rfl, rfl, rfl⟩ | exact congrArg (Value.int _) (by omega))))); exact rfl))))) <;> exact trivial); (· exact rfl))
                · intro _
                  (refine CWp.skip ?_; (try simp (disch := omega) only [qA]))
                  ((repeat refine CWp.seq ?_); refine CWp.region ?_)
                  repeat (first | refine RL.w good ?_ | refine RL.k ?_)
                  refine RL.nil ?_
                  (try simp (disch := omega) only [qA])
                  refine ⟨(i + 1, r), ⟨by (try dsimp only); omega, by (try dsimp only); omega⟩, by (try dsimp only); omega, ?_⟩
                  dsimp only
                  rw [show outV h 1 r.length = .slice (some ⟨loc h 0, 0, none⟩) r.length (U + 1) from if_neg hi0, show outL 3 r r.length = [(0, .cells (ints r) false 3)] from if_neg hi0, show outK r.length = 1 from if_neg hi0]
                  ((try dsimp only); apply fades_to En [(0, 0)]; (· (repeat (refine And.intro ?_ ?_; (· ((try simp only [push_cast, reduceIte, Nat.reduceEqDiff, *]) <;> first | exact rfl | exact SV.fv En (by assumption) | exact ⟨_, rfl, Rn_loc ⟨_, rfl⟩ rfl, rfl, rfl⟩ | exact ⟨_, _, rfl, rfl, rfl⟩ | exact congrArg (Value.int _) (by omega))))) <;> exact trivial); (· exact trivial); (· exact trivial); (· (repeat (refine And.intro ⟨by decide, _, _, rfl, rfl, ?_⟩ ?_; (· (first | exact ⟨_, rfl, flatsFV rfl⟩ | exact ⟨_, rfl, intsFVL _⟩ | (refine ⟨_, rfl, ?_⟩; (repeat (refine ⟨_, _, rfl, ?_, ?_⟩; (· (first | exact rfl | exact SV.fv En (by assumption) | exact ⟨_, rfl, Rn_loc ⟨_, rfl⟩ rfl, rfl, rfl⟩ | exact ⟨_, _, rfl, rfl, rfl⟩ | exact congrArg (Value.int _) (by omega))))); exact rfl))))) <;> exact trivial); (· exact rfl))
              · rintro v h' ⟨e, _⟩; cases e
            · (intro hc; (try simp only [decide_eq_true_eq, decide_eq_false_iff_not, Bool.not_eq_true, Bool.not_eq_false, Int.not_lt, Int.not_le, bne_iff_ne, beq_iff_eq, ne_eq, Bool.not_eq_eq_eq_not, Bool.not_true, Bool.not_false] at hc))
              (refine CWp.exit ?_; (try simp (disch := omega) only [qA]))
              ((repeat refine CWp.seq ?_); refine CWp.region ?_)
              repeat (first | refine RL.w good ?_ | refine RL.k ?_)
              refine RL.nil ?_
              (try simp (disch := omega) only [qA])
              (refine CWp.ret ?_; (try simp (disch := omega) only [qA]); refine rtB ?_; (try simp only [oneV]))
              exact MadeInts.endWith (L := []) (k := 0) (l := r) En rfl (by rw [ov_self En.lt]; exact .inr ⟨_, rfl, rfl, .inl rfl⟩) rfl fun v2 h2 m => ⟨r, v2, 0, rfl, m, by omega⟩
  · rintro v h' ⟨e, _⟩; cases e
end Go.Ab
namespace Go.Ab
open Go.Proofs
set_option maxRecDepth 10000
attribute [push_cast] ov_low
/-- the cells that a search for the cheapest chain keeps: the price, the chain, the cost -/
structure Cells (h : Hp) (ip ic id : Nat) (a b : Int) (cv : Value) (co : Int) : Prop where
  lp : ip < h.next
  lc : ic < h.next
  ld : id < h.next
  gp : h.get ip = some (.cells [.int .i64 a, .int .i64 b] false 24)
  gc : h.get ic = some (.cells [cv] false 22)
  gd : h.get id = some (.cells [.int .i64 co] false 3)
  kv : cv = .slice none 0 0 ∨ ∃ x n c, cv = .slice (some x) n c
  ha : 0 ≤ a ∧ a ≤ 1000
  hb : 0 ≤ b ∧ b ≤ 1000
theorem Cells.ne {h : Hp} {ip ic id : Nat} {a b co : Int} {cv : Value} (c : Cells h ip ic id a b cv co) : ic ≠ id ∧ ip ≠ ic ∧ ip ≠ id := by
  refine ⟨fun e => ?_, fun e => ?_, fun e => ?_⟩
  · have := c.gc; rw [e, c.gd] at this; cases this
  · have := c.gp; rw [e, c.gc] at this; cases this
  · have := c.gp; rw [e, c.gd] at this; cases this
/-- what becomes of the heap: nothing, or another chain and its cost -/
def Upd (h : Hp) (ic id : Nat) (h' : Hp) : Prop :=
  h' = h ∨ ∃ l n c co, n = List.length l ∧ n ≤ 20 ∧ 0 < n ∧ CapOK c n 1 ∧ h' = ov h [(ic, .cells [.slice (some ⟨loc h 0, 0, none⟩) n c] false 22), (id, .cells [.int .i64 co] false 3)] [(0, .cells (ints l) false 3)] 1
theorem Upd.endB {P : Program} {h : Hp} (En : Entry P h) {ic id : Nat} (n1 : ic ≠ id) (hic : ic < h.next) (hid : id < h.next) {l : List Int} {n c : Nat} {co : Int} {U L : List (Nat × AObj)} {j k : Nat} (hn : n = l.length) (h20 : n ≤ 20) (h0 : 0 < n) (hc : CapOK c n 1)
    (hU1 : lk U ic = some (.cells [.slice (some ⟨loc h j, 0, none⟩) n c] false 22) := by simp [lk]) (hU2 : lk U id = some (.cells [.int .i64 co] false 3) := by simp [lk, *]) (hU3 : ∀ p ∈ U, p.1 = ic ∨ p.1 = id := by simp) (hL : lk L j = some (.cells (ints l) false 3) := by rfl) :
    EndB P h (fun e h' => e = .ret (.tuple #[]) ∧ Upd h ic id h') (.ret (.tuple #[])) (ov h U L k) := by
  refine ⟨tau h [(0, j)], ov h [(ic, .cells [.slice (some ⟨loc h 0, 0, none⟩) n c] false 22), (id, .cells [.int .i64 co] false 3)] [(0, .cells (ints l) false 3)] 1, .tuple #[], fades_ov En [(0, j)] ?_ ?_ ?_ rfl, ⟨_, rfl, rfl⟩, rfl, .inr ⟨l, n, c, co, hn, h20, h0, hc, rfl⟩⟩
  · exact ⟨⟨_, hU1, ⟨_, rfl, ⟨_, _, rfl, ⟨_, rfl, Rn_loc ⟨_, rfl⟩ rfl, rfl, rfl⟩, rfl⟩⟩⟩, ⟨_, hU2, ⟨_, rfl, flatsFV rfl⟩⟩, trivial⟩
  · clear hU1 hU2
    induction U with
    | nil => trivial
    | cons p U ih =>
      obtain ⟨i, o⟩ := p
      refine ⟨?_, ih fun p hp => hU3 p (List.mem_cons_of_mem _ hp)⟩
      rcases hU3 _ List.mem_cons_self with e | e
      · simp only at e; subst e; exact ⟨_, by simp only [lk, if_true]; rfl⟩
      · simp only at e; subst e; exact ⟨_, by simp only [lk, if_neg n1, if_true]; rfl⟩
  · exact ⟨⟨by omega, j, _, rfl, hL, ⟨_, rfl, intsFVL l⟩⟩, trivial⟩
set_option maxHeartbeats 4000000 in
theorem f51s (v : Value) (l : List Int) (h : Hp) (hv : IsInts h v l) (hl : l.length ≤ 20) (hpos : 0 < l.length) (hs0 : Small l) (ip ic id : Nat) (a b co : Int) (cv : Value) (hc : Cells h ip ic id a b cv co) :
    ACalls Tryz.prog 51 [v, .pointer (some ⟨ip, 0, none⟩), .pointer (some ⟨ic, 0, none⟩), .pointer (some ⟨id, 0, none⟩)] (fun e h' => e = .ret (.tuple #[]) ∧ Upd h ic id h') h := by
  obtain ⟨n1, n2, n3⟩ := hc.ne
  have hip := hc.lp
  have hic := hc.lc
  have hid := hc.ld
  have hgc := hc.gc
  have hgd := hc.gd
  have lp : ∀ L k, ldN (ov h [] L k).get ⟨ip, 0, none⟩ 2 = some [.int .i64 a, .int .i64 b] := fun L k => by
    unfold ldN; simp only [ov_low0 hip, hc.gp]; rfl
  have lc : ∀ L k, ldN (ov h [] L k).get ⟨ic, 0, none⟩ 1 = some [cv] := fun L k => by
    unfold ldN; simp only [ov_low0 hic, hc.gc]; rfl
  have ld : ∀ L k, ldN (ov h [] L k).get ⟨id, 0, none⟩ 1 = some [.int .i64 co] := fun L k => by
    unfold ldN; simp only [ov_low0 hid, hc.gd]; rfl
  have ha := hc.ha
  have hb := hc.hb
  have hcv := Hid.mk hc.kv
  have sp1 : SV h (.pointer (some ⟨ip, 0, none⟩)) := ⟨_, rfl, ⟨rfl, by rw [hc.gp]; simp⟩, rfl, rfl⟩
  have sp2 : SV h (.pointer (some ⟨ic, 0, none⟩)) := ⟨_, rfl, ⟨rfl, by rw [hc.gc]; simp⟩, rfl, rfl⟩
  have sp3 : SV h (.pointer (some ⟨id, 0, none⟩)) := ⟨_, rfl, ⟨rfl, by rw [hc.gd]; simp⟩, rfl, rfl⟩
  clear hc
  (refine ACalls.bodyB (fn := Tryz.f51) (ng := 4) (N := 19) (res := []) (by kernel_rfl) rfl rfl rfl (by kernel_rfl) (fun En hs => ?_); simp only [argsL, Nat.reduceAdd])
  have sv := hv.sv
  have scv : SV h cv := by
    have := (En.shut ic _ hgc)
    obtain ⟨_, e, f⟩ := this
    cases e
    obtain ⟨_, _, e, f, _⟩ := f
    cases e
    exact f
  clear hs
  ((repeat refine CWp.seq ?_); refine CWp.region ?_)
  repeat (first | refine RL.w good ?_ | refine RL.k ?_)
  (refine' RL.c good ?_ ?_ ?_; rotate_left)
  · exact f49s a b _ _ _ (hv.ov _ _) hl hs0 ha hb
  · rintro v' h' ⟨c, e, hc1, hc2, rfl⟩
    cases e
    simp only [push_cast]
    repeat (first | refine RL.w good ?_ | refine RL.k ?_)
    refine RL.nil ?_
    (try simp (disch := omega) only [qA])
    refine CWp.cut (fun (t : Bool) => (tl [(0, v), (2, .pointer (some ⟨ic, 0, none⟩)), (3, .pointer (some ⟨id, 0, none⟩)), (5, .int .i64 c), (15, .bool t)], ov h [] [] 0)) (fun _ => True) ?_ ?_
    · rcases hcv.out with rfl | ⟨x, n, cc, rfl⟩
      · ((repeat refine CWp.seq ?_); refine CWp.region ?_)
        repeat (first | refine RL.w good ?_ | refine RL.k ?_)
        refine RL.nil ?_
        (try simp (disch := omega) only [qA])
        refine ⟨true, trivial, ?_⟩
        ((try dsimp only); apply fades_to En []; (· (repeat (refine And.intro ?_ ?_; (· ((try simp only [push_cast, reduceIte, Nat.reduceEqDiff, *]) <;> first | exact rfl | exact SV.fv En (by assumption) | exact ⟨_, rfl, Rn_loc ⟨_, rfl⟩ rfl, rfl, rfl⟩ | exact ⟨_, _, rfl, rfl, rfl⟩ | exact congrArg (Value.int _) (by omega))))) <;> exact trivial); (· exact trivial); (· exact trivial); (· (repeat (refine And.intro ⟨by decide, _, _, rfl, rfl, ?_⟩ ?_; (· (first | exact ⟨_, rfl, flatsFV rfl⟩ | exact ⟨_, rfl, intsFVL _⟩ | (refine ⟨_, rfl, ?_⟩; (repeat (refine ⟨_, _, rfl, ?_, ?_⟩; (· (first | exact rfl | exact SV.fv En (by assumption) | exact ⟨_, rfl, Rn_loc ⟨_, rfl⟩ rfl, rfl, rfl⟩ | exact ⟨_, _, rfl, rfl, rfl⟩ | exact congrArg (Value.int _) (by omega))))); exact rfl))))) <;> exact trivial); (· exact rfl))
      · ((repeat refine CWp.seq ?_); refine CWp.region ?_)
        repeat (first | refine RL.w good ?_ | refine RL.k ?_)
        refine RL.nil ?_
        (try simp (disch := omega) only [qA])
        refine ⟨decide (c < co), trivial, ?_⟩
        ((try dsimp only); apply fades_to En []; (· (repeat (refine And.intro ?_ ?_; (· ((try simp only [push_cast, reduceIte, Nat.reduceEqDiff, *]) <;> first | exact rfl | exact SV.fv En (by assumption) | exact ⟨_, rfl, Rn_loc ⟨_, rfl⟩ rfl, rfl, rfl⟩ | exact ⟨_, _, rfl, rfl, rfl⟩ | exact congrArg (Value.int _) (by omega))))) <;> exact trivial); (· exact trivial); (· exact trivial); (· (repeat (refine And.intro ⟨by decide, _, _, rfl, rfl, ?_⟩ ?_; (· (first | exact ⟨_, rfl, flatsFV rfl⟩ | exact ⟨_, rfl, intsFVL _⟩ | (refine ⟨_, rfl, ?_⟩; (repeat (refine ⟨_, _, rfl, ?_, ?_⟩; (· (first | exact rfl | exact SV.fv En (by assumption) | exact ⟨_, rfl, Rn_loc ⟨_, rfl⟩ rfl, rfl, rfl⟩ | exact ⟨_, _, rfl, rfl, rfl⟩ | exact congrArg (Value.int _) (by omega))))); exact rfl))))) <;> exact trivial); (· exact rfl))
    · intro t _
      dsimp only
      ((repeat refine CWp.seq ?_); refine CWp.cnd good ?_ ?_)
      · intro _
        ((repeat refine CWp.seq ?_); refine CWp.region ?_)
        repeat (first | refine RL.w good ?_ | refine RL.k ?_)
        (refine' RL.c good ?_ ?_ ?_; rotate_left)
        · exact f52s _ _ _ (hv.ov _ _) (by omega)
        · rintro v' h' ⟨v2, e, hm⟩
          cases e
          rcases hm with ⟨_, hnil, _⟩ | ⟨cc, rfl, rfl, hcc⟩
          · rw [hnil] at hpos; cases hpos
          · rw [ov_self En.lt]
            replace hcc := Hid.mk hcc
            simp only [push_cast]
            repeat (first | refine RL.w good ?_ | refine RL.k ?_)
            rw [if_neg n1]
            refine RL.nil ?_
            ((try simp (disch := omega) only [qA]); refine nmB ?_; (try simp only [oneV]))
            exact Upd.endB (j := 0) (co := c) En n1 hic hid rfl (by omega) hpos hcc.out
        · rintro v' h' ⟨v2, e, hm⟩; cases e
      · intro _
        (refine CWp.skip ?_; (try simp (disch := omega) only [qA]))
        ((try simp (disch := omega) only [qA]); refine nmB ?_; (try simp only [oneV]))
        exact EndB.plain En rfl ⟨rfl, .inl rfl⟩
  · rintro v h' ⟨c, e, _⟩; cases e
end Go.Ab
