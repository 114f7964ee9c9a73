/- A part of the proof of a law over a given program: Sx, Rl, Sl. -/
import Derived.Test.YtckgcmgnpblnaaaGreatDoorT08
import Derived.Test.YtckgcmgnpblnaaaGreatDoorT09
set_option linter.unusedVariables false
set_option linter.unusedSimpArgs false
/- Walking code with values that are not numbers yet: the heap as a base and what lies on it, the temporaries as a list; the rules. -/
namespace Go.Ab
open Go.RowKit
/-- the first under a number -/
def lk {α : Type} : List (Nat × α) → Nat → Option α
  | [], _ => none
  | (a, v) :: l, n => if a = n then some v else lk l n
def upd {α : Type} : List (Nat × α) → Nat → α → List (Nat × α)
  | [], n, v => [(n, v)]
  | (a, u) :: l, n, v => if a = n then (a, v) :: l else (a, u) :: upd l n v
theorem lk_upd {α : Type} (n m : Nat) (v : α) : ∀ (l : List (Nat × α)), lk (upd l n v) m = if m = n then some v else lk l m
  | [] => by
    simp only [upd, lk]
    by_cases h : m = n
    · rw [if_pos h, if_pos h.symm]
    · rw [if_neg h, if_neg (fun e => h e.symm)]
  | (a, u) :: l => by
    unfold upd
    by_cases h : a = n
    · rw [if_pos h]
      simp only [lk]
      by_cases h2 : m = n
      · rw [if_pos (by omega), if_pos h2]
      · rw [if_neg (by omega), if_neg h2, if_neg (by omega)]
    · rw [if_neg h]
      simp only [lk, lk_upd n m v l]
      by_cases h2 : a = m
      · rw [if_pos h2, if_pos h2, if_neg (by omega)]
      · rw [if_neg h2, if_neg h2]
theorem lk_map {α : Type} {f : α → α} {l : List (Nat × α)} {n : Nat} : lk (l.map fun p => (p.1, f p.2)) n = (lk l n).map f := by
  induction l with
  | nil => rfl
  | cons p l ih => simp only [List.map_cons, lk]; split <;> simp [ih]
def junk : Value := .chan (some 0)
/-- temporaries: those that are listed are known -/
def tl (l : List (Nat × Value)) : Nat → Value := fun t => match lk l t with | some v => v | none => junk
theorem tl_cons (a : Nat) (v : Value) (l : List (Nat × Value)) (t : Nat) : tl ((a, v) :: l) t = if a = t then v else tl l t := by
  unfold tl
  simp only [lk]
  by_cases h : a = t
  · rw [if_pos h, if_pos h]
  · rw [if_neg h, if_neg h]
theorem putT_tl (l : List (Nat × Value)) (d : Nat) (v : Value) : putT (tl l) (some d) v = tl ((d, v) :: l) := by
  funext t
  rw [tl_cons]
  simp only [putT]
  by_cases h : t = d
  · rw [if_pos h, if_pos h.symm]
  · rw [if_neg h, if_neg (fun e => h e.symm)]
theorem putT_none (T : Nat → Value) (v : Value) : putT T none v = T := rfl
/-- the k-th number behind a heap's own -/
@[irreducible] def loc (h : Hp) (k : Nat) : Nat := h.next + k
/-- a heap on another: U: what is told anew of the old objects; L: the new ones -/
def ov (h : Hp) (U L : List (Nat × AObj)) (k : Nat) : Hp := ⟨fun i => if i < h.next then (match lk U i with | some o => some o | none => h.get i) else lk L (i - h.next), loc h k⟩
section
variable {h : Hp} {U L : List (Nat × AObj)} {k : Nat}
theorem loc_inj (a b : Nat) : (loc h a = loc h b) = (a = b) := by unfold loc; simp
theorem loc_iff {a b : Nat} : loc h a = loc h b ↔ a = b := by rw [loc_inj]
theorem loc_lt {a b : Nat} : (loc h a < loc h b) = (a < b) := by unfold loc; simp
theorem loc_ne {i a : Nat} (hi : i < h.next) : (i = loc h a) = False := by unfold loc; simp; omega
theorem ne_loc {i a : Nat} (hi : i < h.next) : (loc h a = i) = False := by unfold loc; simp; omega
theorem ov_next : (ov h U L k).next = loc h k := rfl
theorem ov_loc (a : Nat) : (ov h U L k).get (loc h a) = lk L a := by
  unfold ov loc
  simp only
  rw [if_neg (by omega), show h.next + a - h.next = a by omega]
theorem ov_low {i : Nat} (hi : i < h.next) : (ov h U L k).get i = (match lk U i with | some o => some o | none => h.get i) := by
  unfold ov
  simp only
  rw [if_pos hi]
theorem ov_low0 {i : Nat} (hi : i < h.next) : (ov h [] L k).get i = h.get i := by rw [ov_low hi]; rfl
theorem Hp.ext' {a b : Hp} (h1 : ∀ i, a.get i = b.get i) (h2 : a.next = b.next) : a = b := by
  cases a; cases b; simp only at h1 h2; rw [h2, show _ = _ from funext h1]
theorem app_new (o : AObj) : (HE.new o).app (loc h k) (ov h U L k) = ov h U ((k, o) :: L) (k + 1) := by
  refine Hp.ext' (fun i => ?_) ?_
  · simp only [HE.app, Hp.get_new]
    by_cases hi : i < h.next
    · rw [if_neg (by unfold loc; omega), ov_low hi, ov_low hi]
    · obtain ⟨a, rfl⟩ : ∃ a, i = loc h a := ⟨i - h.next, by unfold loc; omega⟩
      rw [ov_loc, ov_loc]
      simp only [lk]
      by_cases e : a = k
      · rw [if_pos (by rw [e]), if_pos e.symm]
      · rw [if_neg (fun x => e (loc_iff.1 x)), if_neg (fun x => e x.symm)]
  · simp only [HE.app, Hp.next_new, ov_next]; unfold loc; omega
theorem set_loc (a : Nat) (o : AObj) : (ov h U L k).set (loc h a) o = ov h U (upd L a o) k := by
  refine Hp.ext' (fun i => ?_) rfl
  simp only [Hp.get_set]
  by_cases hi : i < h.next
  · rw [if_neg (by unfold loc; omega), ov_low hi, ov_low hi]
  · obtain ⟨b, rfl⟩ : ∃ a, i = loc h a := ⟨i - h.next, by unfold loc; omega⟩
    rw [ov_loc, ov_loc, lk_upd]
    by_cases e : b = a
    · rw [if_pos (by rw [e]), if_pos e]
    · rw [if_neg (fun x => e (loc_iff.1 x)), if_neg e]
theorem set_low {i : Nat} (hi : i < h.next) (o : AObj) : (ov h U L k).set i o = ov h (upd U i o) L k := by
  refine Hp.ext' (fun j => ?_) rfl
  simp only [Hp.get_set]
  by_cases hj : j < h.next
  · rw [ov_low hj, ov_low hj, lk_upd]
    by_cases e : j = i
    · rw [if_pos e, if_pos e]
    · rw [if_neg e, if_neg e]
  · obtain ⟨b, rfl⟩ : ∃ a, j = loc h a := ⟨j - h.next, by unfold loc; omega⟩
    rw [ov_loc, ov_loc, if_neg (by unfold loc; omega)]
theorem app_keep (n : Nat) (h : Hp) : HE.keep.app n h = h := rfl
theorem app_put (n i : Nat) (o : AObj) (h : Hp) : (HE.put i o).app n h = h.set i o := rfl
theorem app_take (n i : Nat) (o : AObj) (h : Hp) : (HE.take i o).app n h = (HE.new o).app n (h.set i .dead) := rfl
/-- a heap on a heap on a heap -/
def shift (k : Nat) : List (Nat × AObj) → List (Nat × AObj)
  | [] => []
  | (a, o) :: l => (k + a, o) :: shift k l
theorem lk_shift (k a : Nat) : ∀ (l : List (Nat × AObj)), lk (shift k l) (k + a) = lk l a
  | [] => rfl
  | (b, o) :: l => by
    simp only [shift, lk, lk_shift k a l]
    by_cases e : b = a
    · rw [if_pos e, if_pos (by omega)]
    · rw [if_neg e, if_neg (by omega)]
theorem lk_shift_lt {k a : Nat} (ha : a < k) : ∀ (l : List (Nat × AObj)), lk (shift k l) a = none
  | [] => rfl
  | (b, o) :: l => by simp only [shift, lk]; rw [if_neg (by omega), lk_shift_lt ha l]
theorem lk_append {α : Type} (l m : List (Nat × α)) (n : Nat) : lk (l ++ m) n = (match lk l n with | some v => some v | none => lk m n) := by
  induction l with
  | nil => rfl
  | cons p l ih => obtain ⟨a, v⟩ := p; simp only [List.cons_append, lk]; split <;> simp [ih]
/-- every listed object lies below -/
def below (k : Nat) : List (Nat × AObj) → Bool
  | [] => true
  | (a, _) :: l => Nat.blt a k && below k l
theorem lk_below {k a : Nat} : ∀ {l : List (Nat × AObj)}, below k l = true → k ≤ a → lk l a = none
  | [], _, _ => rfl
  | (b, o) :: l, h, ha => by
    simp only [below, Bool.and_eq_true] at h
    have := blt_iff.1 h.1
    simp only [lk]
    rw [if_neg (by omega), lk_below h.2 ha]
theorem loc_ov (a : Nat) : loc (ov h U L k) a = loc h (k + a) := by unfold loc; rw [ov_next]; unfold loc; omega
theorem ov_ov (hb : below k L = true) {L' : List (Nat × AObj)} {k' : Nat} : ov (ov h U L k) [] L' k' = ov h U (shift k L' ++ L) (k + k') := by
  refine Hp.ext' (fun i => ?_) (by rw [ov_next, ov_next, loc_ov])
  by_cases hi : i < h.next
  · rw [ov_low0 (by rw [ov_next]; unfold loc; omega), ov_low hi, ov_low hi]
  · obtain ⟨a, rfl⟩ : ∃ a, i = loc h a := ⟨i - h.next, by unfold loc; omega⟩
    rw [ov_loc, lk_append]
    by_cases ha : a < k
    · rw [ov_low0 (by rw [ov_next]; unfold loc; omega), ov_loc, lk_shift_lt ha]
    · obtain ⟨b, rfl⟩ : ∃ b, a = k + b := ⟨a - k, by omega⟩
      rw [← loc_ov (U := U) (L := L), ov_loc, lk_shift, lk_below hb (by omega)]
      cases lk L' b <;> rfl
theorem lk_low {α : Type} {n i : Nat} : ∀ {l : List (Nat × α)}, (∀ p ∈ l, p.1 < n) → n ≤ i → lk l i = none
  | [], _, _ => rfl
  | (a, v) :: l, h, hi => by
    have := h _ List.mem_cons_self
    simp only at this
    simp only [lk]
    rw [if_neg (by omega), lk_low (fun p hp => h p (List.mem_cons_of_mem _ hp)) hi]
theorem ov_ovU (hb : below k L = true) {U2 L' : List (Nat × AObj)} (hU : ∀ p ∈ U2, p.1 < h.next) {k' : Nat} : ov (ov h U L k) U2 L' k' = ov h (U2 ++ U) (shift k L' ++ L) (k + k') := by
  refine Hp.ext' (fun i => ?_) (by rw [ov_next, ov_next, loc_ov])
  by_cases hi : i < h.next
  · rw [ov_low (by rw [ov_next]; unfold loc; omega), ov_low hi, ov_low hi, lk_append]
    cases lk U2 i <;> rfl
  · obtain ⟨a, rfl⟩ : ∃ a, i = loc h a := ⟨i - h.next, by unfold loc; omega⟩
    rw [ov_loc, lk_append]
    by_cases ha : a < k
    · rw [ov_low (by rw [ov_next]; unfold loc; omega), ov_loc, lk_shift_lt ha, lk_low hU (by omega)]
    · obtain ⟨b, rfl⟩ : ∃ b, a = k + b := ⟨a - k, by omega⟩
      rw [← loc_ov (U := U) (L := L), ov_loc, lk_shift, lk_below hb (by omega)]
      cases lk L' b <;> rfl
theorem ov_none {i : Nat} (hb : below k L = true) (hi : (ov h U L k).next ≤ i) : (ov h U L k).get i = none := by
  have hn : ¬ i < h.next := by rw [ov_next] at hi; unfold loc at hi; omega
  obtain ⟨a, rfl⟩ : ∃ a, i = loc h a := ⟨i - h.next, by unfold loc; omega⟩
  rw [ov_next] at hi
  rw [ov_loc]
  exact lk_below hb (by unfold loc at hi; omega)
/-- an own object told anew -/
theorem ov_upd (hb : below k L = true) {j : Nat} (hj : j < k) (o : AObj) : ov (ov h U L k) [(loc h j, o)] [] 0 = ov h U (upd L j o) k := by
  rw [← set_loc]
  refine Hp.ext' (fun i => ?_) (by rw [ov_next, loc_ov]; rfl)
  simp only [Hp.get_set]
  by_cases hi : i < (ov h U L k).next
  · rw [ov_low hi]
    simp only [lk]
    by_cases e : i = loc h j
    · rw [if_pos e.symm, if_pos e]
    · rw [if_neg (fun x => e x.symm), if_neg e]
  · obtain ⟨a, rfl⟩ : ∃ a, i = loc (ov h U L k) a := ⟨i - (ov h U L k).next, by unfold loc; omega⟩
    rw [ov_loc, if_neg (by rw [loc_ov]; unfold loc; omega), ov_none hb (by omega)]
    rfl
theorem ov_self (hlt : ∀ i, h.get i ≠ none → i < h.next) : ov h [] [] 0 = h := by
  refine Hp.ext' (fun i => ?_) (by rw [ov_next]; unfold loc; rfl)
  by_cases hi : i < h.next
  · rw [ov_low0 hi]
  · obtain ⟨a, rfl⟩ : ∃ a, i = loc h a := ⟨i - h.next, by unfold loc; omega⟩
    rw [ov_loc]
    cases e : h.get (loc h a) with
    | none => rfl
    | some o => exact absurd (hlt _ (by rw [e]; simp)) hi
end
/-- what holds of a heap in which a function begins -/
structure Entry (P : Program) (h : Hp) : Prop where
  shut : Shut h
  lt : ∀ i, h.get i ≠ none → i < h.next
  gl : P.globals.size ≤ h.next
theorem HR.entry {P : Program} {ρ : Ren} {h : Hp} {w : World} (H : HR P ρ h w) : Entry P h where
  shut := H.shut
  lt := H.lt
  gl := by
    rcases Nat.eq_zero_or_pos P.globals.size with h0 | h0
    · omega
    · obtain ⟨l, h1, _⟩ := H.glob (P.globals.size - 1) (by omega)
      have := H.lt _ (H.dom _ _ h1).1
      omega
/-- numbers anew: σ lists (new, old) -/
def tau (h : Hp) (σ : List (Nat × Nat)) : Nat → Nat := fun i => if i < h.next then i else (match lk σ (i - h.next) with | some j => loc h j | none => i)
section
variable {P : Program} {h : Hp} {U L U' L' : List (Nat × AObj)} {k k' : Nat} {σ : List (Nat × Nat)}
theorem tau_loc (a : Nat) : tau h σ (loc h a) = (match lk σ a with | some j => loc h j | none => loc h a) := by
  unfold tau loc
  rw [if_neg (by omega), show h.next + a - h.next = a by omega]
theorem tau_low {i : Nat} (hi : i < h.next) : tau h σ i = i := by unfold tau; rw [if_pos hi]
theorem lk_mem {α : Type} {n : Nat} {v : α} : ∀ {l : List (Nat × α)}, lk l n = some v → (n, v) ∈ l
  | [], h => by cases h
  | (a, u) :: l, h => by
    simp only [lk] at h
    split at h
    · rename_i e; cases h; rw [e]; exact List.mem_cons_self
    · exact List.mem_cons_of_mem _ (lk_mem h)
def seconds : List (Nat × Nat) → List Nat
  | [] => []
  | (_, b) :: l => b :: seconds l
def nodupB : List Nat → Bool
  | [] => true
  | a :: l => !memN a l && nodupB l
theorem mem_seconds {a b : Nat} : ∀ {l : List (Nat × Nat)}, (a, b) ∈ l → memN b (seconds l) = true
  | (x, y) :: l, h => by
    simp only [seconds, memN]
    cases h with
    | head => simp
    | tail _ h => rw [mem_seconds h]; cases Nat.beq y b <;> rfl
theorem nodup_inj {a a' b : Nat} : ∀ {l : List (Nat × Nat)}, nodupB (seconds l) = true → lk l a = some b → lk l a' = some b → a = a'
  | [], _, h, _ => by cases h
  | (x, y) :: l, hn, h, h' => by
    simp only [seconds, nodupB, Bool.and_eq_true, Bool.not_eq_true'] at hn
    simp only [lk] at h h'
    by_cases e : x = a
    · rw [if_pos e] at h
      cases h
      by_cases e' : x = a'
      · omega
      · rw [if_neg e'] at h'
        have := mem_seconds (lk_mem h')
        rw [hn.1] at this
        cases this
    · rw [if_neg e] at h
      by_cases e' : x = a'
      · rw [if_pos e'] at h'
        cases h'
        have := mem_seconds (lk_mem h)
        rw [hn.1] at this
        cases this
      · rw [if_neg e'] at h'
        exact nodup_inj hn.2 h h'
/-- the relation of numbers of a change of heaps on one base -/
def Rn (h : Hp) (U' L' : List (Nat × AObj)) (k' : Nat) (σ : List (Nat × Nat)) : Nat → Nat → Prop := Rt (tau h σ) (ov h U' L' k')
theorem Rn_loc {a b : Nat} (h1 : ∃ o, lk L' a = some o) (h2 : lk σ a = some b) : Rn h U' L' k' σ (loc h a) (loc h b) := by
  obtain ⟨o, h1⟩ := h1
  refine ⟨by rw [ov_loc, h1]; simp, ?_⟩
  rw [tau_loc, h2]
theorem Rn_low {i : Nat} (hlt : i < h.next) (hi : h.get i ≠ none) : Rn h U' L' k' σ i i := by
  refine ⟨?_, tau_low hlt⟩
  rw [ov_low hlt]
  split
  · simp
  · exact hi
theorem SV.fv (En : Entry P h) {v : Value} (hv : SV h v) : FV (Rn h U' L' k' σ) v v := FV.mono (fun i j ⟨e, hi⟩ => by subst e; exact Rn_low (En.lt i hi) hi) _ _ hv
theorem FE.mono {R R' : Nat → Nat → Prop} (h : ∀ i j, R i j → R' i j) : ∀ {es es' : List (Value × Value × Nat)}, FE R es es' → FE R' es es'
  | [], _, hf => hf
  | (k, v, b) :: es, _, ⟨k', v', l', h1, h2, h3, h4⟩ => ⟨k', v', l', h1, FV.mono h _ _ h2, FV.mono h _ _ h3, FE.mono h h4⟩
theorem FO.mono {R R' : Nat → Nat → Prop} (h : ∀ i j, R i j → R' i j) : ∀ {o o' : AObj}, FO R o o' → FO R' o o'
  | .cells c ro e, _, ⟨c', h1, h2⟩ => ⟨c', h1, FVL.mono h _ _ h2⟩
  | .map es clock, _, ⟨es', h1, h2⟩ => ⟨es', h1, FE.mono h h2⟩
  | .iter m _ _ _, _, ⟨m', h1, h2⟩ => ⟨m', h1, by
    cases m with
    | none => exact h2
    | some r => obtain ⟨r', a, b⟩ := h2; exact ⟨r', a, h _ _ b⟩⟩
  | .siter _ _, _, hf => hf
  | .loop k L T, _, ⟨T', h1, h2⟩ => ⟨T', h1, fun t => FV.mono h _ _ (h2 t)⟩
  | .dead, _, _ => trivial
theorem SO.fo (En : Entry P h) {o : AObj} (hv : SO h o) : FO (Rn h U' L' k' σ) o o := FO.mono (fun i j ⟨e, hi⟩ => by subst e; exact Rn_low (En.lt i hi) hi) hv
/-- one heap on a base to another on it -/
theorem ov_fades (En : Entry P h) (hU : ∀ p ∈ U', p.1 < h.next → ∃ o, lk U p.1 = some o ∧ FO (Rn h U' L' k' σ) p.2 o) (hU2 : ∀ p ∈ U, lk U' p.1 ≠ none)
    (hL : ∀ p ∈ L', p.1 < k' ∧ ∃ j o, lk σ p.1 = some j ∧ lk L j = some o ∧ FO (Rn h U' L' k' σ) p.2 o) (hn : nodupB (seconds σ) = true) : Fades P h.next (tau h σ) (ov h U L k) (ov h U' L' k') where
  low := fun i hi => tau_low hi
  inj := fun i j hi hj e => by
    by_cases h1 : i < h.next
    · by_cases h2 : j < h.next
      · rw [tau_low h1, tau_low h2] at e; exact e
      · obtain ⟨b, rfl⟩ : ∃ a, j = loc h a := ⟨j - h.next, by unfold loc; omega⟩
        rw [ov_loc] at hj
        cases hb : lk L' b with
        | none => exact absurd hb hj
        | some o =>
          obtain ⟨_, j', o', q1, q2, _⟩ := hL _ (lk_mem hb)
          rw [tau_low h1, tau_loc, q1] at e
          simp only at e
          rw [e] at h1
          unfold loc at h1
          omega
    · obtain ⟨a, rfl⟩ : ∃ a, i = loc h a := ⟨i - h.next, by unfold loc; omega⟩
      rw [ov_loc] at hi
      cases ha : lk L' a with
      | none => exact absurd ha hi
      | some o =>
        obtain ⟨_, i', o', q1, q2, _⟩ := hL _ (lk_mem ha)
        rw [tau_loc, q1] at e
        simp only at e
        by_cases h2 : j < h.next
        · rw [tau_low h2] at e
          rw [← e] at h2
          unfold loc at h2
          omega
        · obtain ⟨b, rfl⟩ : ∃ a, j = loc h a := ⟨j - h.next, by unfold loc; omega⟩
          rw [ov_loc] at hj
          cases hb : lk L' b with
          | none => exact absurd hb hj
          | some o =>
            obtain ⟨_, j', o', q3, q4, _⟩ := hL _ (lk_mem hb)
            rw [tau_loc, q3] at e
            simp only at e
            rw [loc_inj] at e
            subst e
            have := nodup_inj hn q1 q3
            simp only at this
            rw [this]
  ob := fun i o' hi => by
    by_cases h1 : i < h.next
    · rw [tau_low h1]
      have hi' := hi
      rw [ov_low h1] at hi
      rw [ov_low h1]
      split at hi
      · rename_i o2 ho
        cases hi
        obtain ⟨o, q1, q2⟩ := hU _ (lk_mem ho) h1
        rw [q1]
        exact ⟨o, rfl, q2⟩
      · rename_i ho
        have : lk U i = none := by
          cases e : lk U i with
          | none => rfl
          | some o => exact absurd ho (hU2 _ (lk_mem e))
        rw [this]
        exact ⟨o', hi, SO.fo En (En.shut i o' hi)⟩
    · obtain ⟨a, rfl⟩ : ∃ a, i = loc h a := ⟨i - h.next, by unfold loc; omega⟩
      rw [ov_loc] at hi
      obtain ⟨_, j', o2, q1, q2, q3⟩ := hL _ (lk_mem hi)
      refine ⟨o2, ?_, q3⟩
      rw [tau_loc]
      simp only at q1
      rw [q1]
      simp only
      rw [ov_loc, q2]
  lt := fun i hi => by
    rw [ov_next]
    by_cases h1 : i < h.next
    · unfold loc; omega
    · obtain ⟨a, rfl⟩ : ∃ a, i = loc h a := ⟨i - h.next, by unfold loc; omega⟩
      rw [ov_loc] at hi
      cases ha : lk L' a with
      | none => exact absurd ha hi
      | some o =>
        have := (hL _ (lk_mem ha)).1
        simp only at this
        unfold loc
        omega
  nx := by rw [ov_next]; unfold loc; omega
  dom := fun i hi hne => by
    rw [ov_low hi]
    split
    · simp
    · rename_i ho
      rw [ov_low hi] at hne
      split at hne
      · rename_i o2 ho2
        exact absurd ho (hU2 _ (lk_mem ho2))
      · exact hne
  gl := En.gl
/-- .. and the temporaries with it -/
def FT (R : Nat → Nat → Prop) (TL : List (Nat × Value)) : List (Nat × Value) → Prop
  | [] => True
  | (t, v) :: l => FV R v (tl TL t) ∧ FT R TL l
def FU (R : Nat → Nat → Prop) (U : List (Nat × AObj)) : List (Nat × AObj) → Prop
  | [] => True
  | (i, o') :: l => (∃ o, lk U i = some o ∧ FO R o' o) ∧ FU R U l
def FU2 (U' : List (Nat × AObj)) : List (Nat × AObj) → Prop
  | [] => True
  | (i, _) :: l => (∃ o, lk U' i = some o) ∧ FU2 U' l
def FL (R : Nat → Nat → Prop) (σ : List (Nat × Nat)) (L : List (Nat × AObj)) (k' : Nat) : List (Nat × AObj) → Prop
  | [] => True
  | (j, o') :: l => (j < k' ∧ ∃ i o, lk σ j = some i ∧ lk L i = some o ∧ FO R o' o) ∧ FL R σ L k' l
theorem FT.mem {R : Nat → Nat → Prop} {TL : List (Nat × Value)} : ∀ {l : List (Nat × Value)}, FT R TL l → ∀ p ∈ l, FV R p.2 (tl TL p.1)
  | (t, v) :: l, ⟨h1, h2⟩, p, hp => by
    cases hp with
    | head => exact h1
    | tail _ hp => exact FT.mem h2 p hp
theorem FU.mem {R : Nat → Nat → Prop} {U : List (Nat × AObj)} : ∀ {l : List (Nat × AObj)}, FU R U l → ∀ p ∈ l, ∃ o, lk U p.1 = some o ∧ FO R p.2 o
  | (t, v) :: l, ⟨h1, h2⟩, p, hp => by
    cases hp with
    | head => exact h1
    | tail _ hp => exact FU.mem h2 p hp
theorem FU2.mem {U' : List (Nat × AObj)} : ∀ {l : List (Nat × AObj)}, FU2 U' l → ∀ p ∈ l, lk U' p.1 ≠ none
  | (t, v) :: l, ⟨⟨o, h1⟩, h2⟩, p, hp => by
    cases hp with
    | head => simp only; rw [h1]; simp
    | tail _ hp => exact FU2.mem h2 p hp
theorem FL.mem {R : Nat → Nat → Prop} {σ : List (Nat × Nat)} {L : List (Nat × AObj)} {k' : Nat} : ∀ {l : List (Nat × AObj)}, FL R σ L k' l → ∀ p ∈ l, p.1 < k' ∧ ∃ j o, lk σ p.1 = some j ∧ lk L j = some o ∧ FO R p.2 o
  | (t, v) :: l, ⟨h1, h2⟩, p, hp => by
    cases hp with
    | head => exact h1
    | tail _ hp => exact FL.mem h2 p hp
theorem fades_ov (En : Entry P h) (σ : List (Nat × Nat)) (hU : FU (Rn h U' L' k' σ) U U') (hU2 : FU2 U' U) (hL : FL (Rn h U' L' k' σ) σ L k' L') (hn : nodupB (seconds σ) = true) : Fades P h.next (tau h σ) (ov h U L k) (ov h U' L' k') :=
  ov_fades En (fun p hp _ => hU.mem p hp) hU2.mem hL.mem hn
theorem fades_to (En : Entry P h) {TL TL' : List (Nat × Value)} (σ : List (Nat × Nat)) (hT : FT (Rn h U' L' k' σ) TL TL') (hU : FU (Rn h U' L' k' σ) U U') (hU2 : FU2 U' U) (hL : FL (Rn h U' L' k' σ) σ L k' L') (hn : nodupB (seconds σ) = true) :
    FadesTo P h.next (tl TL) (ov h U L k) (tl TL') (ov h U' L' k') := by
  refine ⟨tau h σ, fades_ov En σ hU hU2 hL hn, fun t => ?_⟩
  unfold tl
  split
  · rename_i v hv
    exact hT.mem _ (lk_mem hv)
  · exact trivial
end
/- functions -/
/-- how a call ends, its heap made less -/
def EndB (P : Program) (h0 : Hp) (Q : AEnd → Hp → Prop) : AEnd → Hp → Prop
  | .ret v, h => ∃ τ h2 v2, Fades P h0.next τ h h2 ∧ FV (Rt τ h2) v2 v ∧ Q (.ret v2) h2
  | .panic v, h => ∃ τ h2 v2, Fades P h0.next τ h h2 ∧ FV (Rt τ h2) v2 v ∧ Q (.panic v2) h2
def bodyB (P : Program) (h0 : Hp) (res : List ResultVar) (Q : AEnd → Hp → Prop) : APost
  | .normal, T, h | .ret, T, h => ∃ r, resL (tiOf P) T h.get res = some r ∧ (EndB P h0 Q (.ret (oneV r)) h ∨ Q (.ret (oneV r)) h)
  | .panic v, _, h => EndB P h0 Q (.panic v) h
  | _, _, _ => False
def argsL : List Value → Nat → List (Nat × Value)
  | [], _ => []
  | v :: l, n => (n, v) :: argsL l (n + 1)
theorem lk_argsL : ∀ (l : List Value) (n t : Nat), lk (argsL l n) t = if t < n then none else l[t - n]?
  | [], n, t => by simp [argsL, lk]
  | v :: l, n, t => by
    simp only [argsL, lk, lk_argsL l (n + 1) t]
    by_cases h : n = t
    · subst h; simp
    · rw [if_neg h]
      by_cases h2 : t < n
      · rw [if_pos h2, if_pos (by omega)]
      · rw [if_neg h2, if_neg (by omega), show t - n = (t - (n + 1)) + 1 by omega]; rfl
theorem FV.refl_vr {P : Program} {ρ : Ren} {h : Hp} {w : World} (H : HR P ρ h w) (v c : Value) (hv : VR ρ v c) : SV h v := SV.of_vr H v c hv
structure Good (P : Program) (ng : Nat) : Prop where
  ng : ng ≤ P.globals.size
  mo : P.follows .mixedOrders = true
def CWp (P : Program) (ng B N : Nat) (c : Code) (Q : APost) (T : Nat → Value) (h : Hp) : Prop := okCode ng N c = true → BWp P B N c Q T h
theorem EndB.ends {P : Program} {h0 : Hp} {Q : AEnd → Hp → Prop} {ρ : Ren} {h : Hp} {w : World} {e : AEnd} {en : Ending} (H : HR P ρ h w) (he : EndR ρ e en) (q : EndB P h0 Q e h) : ∃ e' ρ' h', EndR ρ' e' en ∧ HR P ρ' h' w ∧ Fr h0.next ρ h w ρ' h' w ∧ Q e' h' := by
  cases e with
  | ret v =>
    obtain ⟨c, rfl, hv⟩ := he
    obtain ⟨τ, h2, v2, F, f, q⟩ := q
    exact ⟨.ret v2, ρ.fade τ h2, h2, ⟨c, rfl, FV.vr Fades.rt _ _ _ f hv⟩, F.hr H, F.fr H, q⟩
  | panic v =>
    obtain ⟨c, rfl, hv⟩ := he
    obtain ⟨τ, h2, v2, F, f, q⟩ := q
    exact ⟨.panic v2, ρ.fade τ h2, h2, ⟨c, rfl, FV.vr Fades.rt _ _ _ f hv⟩, F.hr H, F.fr H, q⟩
theorem ACalls.bodyB {P : Program} {ng : Nat} {f : FuncId} {fn : Func} {c : Code} {N : Nat} {res : List ResultVar} {args : List Value} {Q : AEnd → Hp → Prop} {h : Hp} (hf : P.funcs[f]? = some fn) (hb : fn.body = some c)
    (hN : max args.length fn.ntmps = N) (hres : fn.results.toList = res) (hok : okCode ng N c = true)
    (p : Entry P h → (∀ v ∈ args, SV h v) → CWp P ng h.next N c (Ab.bodyB P h res Q) (tl (argsL args 0)) (ov h [] [] 0)) : ACalls P f args Q h := fun ρ w cs H hv => by
  have En := H.entry
  have hsv : ∀ v ∈ args, SV h v := by
    intro v hm
    obtain ⟨i, hi⟩ := List.getElem?_of_mem hm
    obtain ⟨c, _, h2⟩ := hv.get i v hi
    exact SV.of_vr H v c h2
  have p := p En hsv hok
  rw [ov_self En.lt] at p
  have ht := argT_TR fn.ntmps hv
  rw [hN] at ht
  have ht' : TR ρ (tl (argsL args 0)) N { tmps := cs ++ Array.replicate (fn.ntmps - cs.size) Go.undef, defers := [] } := ⟨ht.1, fun t => by
    have := ht.2 t
    rw [argT_eq] at this
    unfold tl
    rw [lk_argsL, if_neg (by omega), Nat.sub_zero]
    cases hx : args[t]? with
    | none => exact trivial
    | some v => rw [hx] at this; exact this⟩
  refine calls_of_wp hf hb (wpIn_wide.1 (wpIn_mono (p (Nat.le_refl _) none ρ w _ H ht') ?_))
  rintro e a' w' ⟨e', ρ', T', h', p1, p2, p3, p4, p5, p6⟩
  have fin : ∀ {en : Ending} {e : AEnd}, EndR ρ' e en → EndB P h Q e h' → ∃ e' ρ' h', EndR ρ' e' en ∧ HR P ρ' h' w' ∧ Fr h.next ρ h w ρ' h' w' ∧ Q e' h' := fun he q => by
    obtain ⟨e2, ρ2, h2, a, b, c, d⟩ := q.ends p2 he
    exact ⟨e2, ρ2, h2, a, b, p3.trans c (Nat.le_refl _), d⟩
  have retc : ∀ r, resL (tiOf P) T' h'.get res = some r → (EndB P h Q (.ret (oneV r)) h' ∨ Q (.ret (oneV r)) h') → ∃ v, (results fn a'.tmps).run P w' = .ok v w' ∧ ∃ e' ρ' h', EndR ρ' e' (.returned v) ∧ HR P ρ' h' w' ∧ Fr h.next ρ h w ρ' h' w' ∧ Q e' h' := fun r k1 k2 => by
    rw [← hres] at k1
    obtain ⟨v, k3, k4⟩ := results_sound (E := tiOf P) (fun _ _ h => h) p2 p4 k1
    rcases k2 with k2 | k2
    · exact ⟨v, k3, fin (e := .ret (oneV r)) ⟨v, rfl, k4⟩ k2⟩
    · exact ⟨v, k3, .ret (oneV r), ρ', h', ⟨v, rfl, k4⟩, p2, p3, k2⟩
  cases e' with
  | normal =>
    cases p1
    obtain ⟨r, k1, k2⟩ := p6
    exact ⟨p5, retc r k1 k2⟩
  | ret =>
    cases p1
    obtain ⟨r, k1, k2⟩ := p6
    exact ⟨p5, retc r k1 k2⟩
  | panic v =>
    obtain ⟨cv, rfl, k1⟩ := p1
    exact ⟨p5, fin (e := .panic v) ⟨cv, rfl, k1⟩ p6⟩
  | exit n => exact p6.elim
  | goto l => exact p6.elim
end Go.Ab
/- The rules of a walk. -/
namespace Go.Ab
open Go.RowKit
def RL (P : Program) (ng N : Nat) (ops : List Oper) (rest : List Oper) (Q : APost) (T : Nat → Value) (h : Hp) : Prop := okOps ng N rest = true → AList P N ops.toArray rest Q T h
section
variable {P : Program} {ng B N : Nat} {Q : APost} {T T' : Nat → Value} {h h' : Hp}
theorem CWp.skip (q : Q .normal T h) : CWp P ng B N .skip Q T h := fun _ => .skip q
theorem CWp.label {l : Nat} (q : Q .normal T h) : CWp P ng B N (.label l) Q T h := fun _ => .label q
theorem CWp.exit {i : Nat} (q : Q (.exit i) T h) : CWp P ng B N (.exit i) Q T h := fun _ => .exit q
theorem CWp.goto {i : Nat} (q : Q (.goto i) T h) : CWp P ng B N (.goto i) Q T h := fun _ => .goto q
theorem CWp.ret (q : Q .ret T h) : CWp P ng B N .ret Q T h := fun _ => .ret q
theorem CWp.seq {x y : Code} (p : CWp P ng B N x (thenA (fun T h => CWp P ng B N y Q T h) Q) T h) : CWp P ng B N (.seq x y) Q T h := fun hok => by
  unfold okCode at hok
  cases hx : okCode ng N x with
  | false => rw [hx] at hok; cases hok
  | true =>
    rw [hx] at hok
    refine BWp.seq ((p hx).mono fun e T h q => ?_)
    cases e <;> first | exact q hok | exact q
theorem CWp.block {i : Nat} {c : Code} (p : CWp P ng B N c (blockA i Q) T h) : CWp P ng B N (.block i c) Q T h := fun hok => BWp.block (p hok)
theorem CWp.cond {c : Operand} {x y : Code} (X : Good P ng) {t : Bool} (hc : evo T c = .bool t) (p1 : t = true → CWp P ng B N x Q T h) (p2 : t = false → CWp P ng B N y Q T h) : CWp P ng B N (.cond c x y) Q T h := fun hok => by
  unfold okCode at hok
  cases hc1 : okO ng c with
  | false => rw [hc1] at hok; cases hok
  | true =>
    cases hx : okCode ng N x with
    | false => rw [hc1, hx] at hok; cases hok
    | true =>
      rw [hc1, hx] at hok
      exact BWp.cond X.ng hc1 hc (fun e => p1 e hx) (fun e => p2 e hok)
theorem CWp.mono {c : Code} {Q' : APost} (hq : ∀ e T h, Q e T h → Q' e T h) (p : CWp P ng B N c Q T h) : CWp P ng B N c Q' T h := fun hok => (p hok).mono hq
/-- where ways meet again: S tells how it stands there -/
theorem CWp.cut {α : Type} (S : α → (Nat → Value) × Hp) (I : α → Prop) {x y : Code} (p : CWp P ng B N x (thenA (fun T h => ∃ s, I s ∧ FadesTo P B T h (S s).1 (S s).2) Q) T h) (q : ∀ s, I s → CWp P ng B N y Q (S s).1 (S s).2) : CWp P ng B N (.seq x y) Q T h :=
  CWp.seq (p.mono fun e T h r => by
    cases e <;> first | exact r | skip
    obtain ⟨s, hs, F⟩ := r
    exact fun hok => (q s hs hok).fadeTo F)
/-- how a round ends: the loop begins anew in a lesser state, or is left -/
def roundA {α : Type} (P : Program) (B : Nat) (S : α → (Nat → Value) × Hp) (m : α → Nat) (I : α → Prop) (s : α) (Q : APost) : APost
  | .normal, T, h => ∃ s', I s' ∧ m s' < m s ∧ FadesTo P B T h (S s').1 (S s').2
  | e, T, h => Q e T h
theorem CWp.loop {α : Type} (S : α → (Nat → Value) × Hp) (m : α → Nat) (I : α → Prop) {c : Code} (s : α) (hs : I s) (F : FadesTo P B T h (S s).1 (S s).2)
    (body : ∀ s, I s → CWp P ng B N c (roundA P B S m I s Q) (S s).1 (S s).2) : CWp P ng B N (.loop c) Q T h := fun hok =>
  BWp.loop S m I (fun s hs => (body s hs hok).mono fun e T h q => by cases e <;> exact q) s hs F
theorem CWp.fadeTo {c : Code} (F : FadesTo P B T h T' h') (p : CWp P ng B N c Q T' h') : CWp P ng B N c Q T h := fun hok => (p hok).fadeTo F
theorem CWp.region {id : Nat} {ops : Array Oper} (p : RL P ng N ops.toList ops.toList Q T h) : CWp P ng B N (.region id ops false) Q T h := fun hok => BWp.of (AWp.region (p hok))
theorem okOps_mem {o : Oper} : ∀ {l : List Oper}, okOps ng N l = true → o ∈ l → okL ng o.op.operands.toList = true ∧ dstOK N o = true
  | [], _, h => by cases h
  | x :: l, hk, hm => by
    unfold okOps at hk
    cases hx : (okL ng x.op.operands.toList && dstOK N x) with
    | false => rw [hx] at hk; cases hk
    | true =>
      rw [hx] at hk
      cases hm with
      | head => simpa using hx
      | tail _ hm => exact okOps_mem hk hm
/-- what a region's panic leaves alone: its temporaries are not told -/
theorem CWp.draw (pf : Nat → Bool) {QP : Value → Hp → Prop} {id : Nat} {ops : Array Oper} {p : List PStep} (X : Good P ng) (hp : planOf pf ops ops.size (Array.replicate ops.size false) = some p) (hQ : ∀ v T h, QP v h → Q (.panic v) T h)
    (q : PL P ops.toList Q QP p [] T h) : CWp P ng B N (.region id ops true) Q T h := fun hok => BWp.of (AWp.draw X.mo X.ng hQ
      (fun i o hi => okOps_mem (l := ops.toList) hok (by rw [← Array.getElem?_toList] at hi; exact List.mem_of_getElem? hi))
      (PL.sound (pf := pf) _ _ p [] T h hp (fun i o _ h => by
        rw [Array.getD_eq_getD_getElem?, Array.getElem?_replicate] at h
        split at h <;> cases h) (fun e he => by cases he) q))
section
variable {ops : List Oper} {o : Oper} {rest : List Oper}
theorem RL.nil (q : Q .normal T h) : RL P ng N ops [] Q T h := fun _ => AList.nil q
theorem RL.cons_ok (hk : okOps ng N (o :: rest) = true) : okL ng o.op.operands.toList = true ∧ dstOK N o = true ∧ okOps ng N rest = true := by
  obtain ⟨a, b⟩ := okOps_mem hk List.mem_cons_self
  refine ⟨a, b, ?_⟩
  unfold okOps at hk
  rw [a, b] at hk
  exact hk
theorem RL.skip (hw : wantA ops T o = false) (hk : gK ops T o = true) (hT : putT T o.dst undef = T') (p : RL P ng N ops rest Q T' h) : RL P ng N ops (o :: rest) Q T h := fun hok => by
  obtain ⟨_, b, c⟩ := RL.cons_ok hok
  subst hT
  exact AList.skip b hw hk (p c)
theorem RL.op {v : Value} {e : HE} (X : Good P ng) (hw : wantA ops T o = true) (hr : opA (tiOf P) T h.get h.next o.op = some (v, e)) (hT : putT T o.dst v = T') (hh : e.app h.next h = h') (p : RL P ng N ops rest Q T' h') :
    RL P ng N ops (o :: rest) Q T h := fun hok => by
  obtain ⟨a, b, c⟩ := RL.cons_ok hok
  subst hT
  subst hh
  exact AList.op (fun _ _ h => h) X.ng b hw a hr (p c)
theorem RL.call {c : Call} {f : Operand} {g : FuncId} {x y : Array Value} {as : List Value} {R : AEnd → Hp → Prop} (X : Good P ng) (hw : wantA ops T o = true) (hop : o.op = .call c) (hc : c.callee = .value f) (hf : evo T f = .func (.func g) x y) (hg : Enters P g)
    (ha : x.toList ++ evL T c.args.toList ++ y.toList = as) (K : ACalls P g as R h) (hv : ∀ v h', R (.ret v) h' → RL P ng N ops rest Q (putT T o.dst v) h') (hp : ∀ v h', R (.panic v) h' → Q (.panic v) T h') : RL P ng N ops (o :: rest) Q T h := fun hok => by
  obtain ⟨a, b, d⟩ := RL.cons_ok hok
  subst ha
  refine AList.call X.ng b hw a hop hc hf hg (K.mono fun e h' r => ?_)
  cases e with
  | ret v => exact hv v h' r d
  | panic v => exact hp v h' r
theorem RL.panic {x : Operand} {t : Nat} {v : Value} (X : Good P ng) (hw : wantA ops T o = true) (hop : o.op = .panic x) (hx : evo T x = .iface t v) (q : Q (.panic (.iface t v)) T h) : RL P ng N ops (o :: rest) Q T h := fun hok => by
  obtain ⟨a, b, d⟩ := RL.cons_ok hok
  exact AList.panic X.ng hw a hop hx q
end
/- in a region that asks for its order -/
section
variable {ops : List Oper} {o : Oper} {QP : Value → Hp → Prop} {p : List PStep} {L : List LP} {i : Nat} {deps : List Nat}
theorem PL.fl {v : Value} (hw : wantA ops T o = true) (hr : opA (tiOf P) T h.get h.next o.op = some (v, .keep)) (hT : putT T o.dst v = T') (q : PL P ops Q QP p (bif pureOp o.op then L else ⟨i, o, T, v⟩ :: L) T' h) : PL P ops Q QP (.fl i o :: p) L T h := by
  subst hT
  exact .inl ⟨hw, v, FloatX.op (fun _ _ h => h) hr, q⟩
theorem PL.flskip (hw : wantA ops T o = false) (hk : gK ops T o = true) (hT : putT T o.dst undef = T') (q : PL P ops Q QP p L T' h) : PL P ops Q QP (.fl i o :: p) L T h := by
  subst hT
  exact .inr ⟨hw, hk, q⟩
theorem PL.efskip (hw : wantA ops T o = false) (hk : gK ops T o = true) (hT : putT T o.dst undef = T') (q : PL P ops Q QP p L T' h) : PL P ops Q QP (.ef i o deps :: p) L T h := by
  subst hT
  exact .inr ⟨hw, hk, q⟩
theorem Float.call {c : Call} {f : Operand} {g : FuncId} {x y : Array Value} {as : List Value} {v : Value} (hop : o.op = .call c) (hc : c.callee = .value f) (hf : evo T f = .func (.func g) x y) (hg : Enters P g)
    (ha : x.toList ++ (evL T c.args.toList ++ y.toList) = as) (K : ACalls P g as (fun e h' => e = .ret v ∧ h' = h) h) : Float P o T v h := by
  subst ha
  refine AOne.call hop hc hf hg (K.mono ?_)
  rintro e h' ⟨rfl, rfl⟩
  exact ⟨rfl, rfl⟩
/-- a call that changes nothing -/
theorem PL.flcall {c : Call} {f : Operand} {g : FuncId} {x y : Array Value} {as : List Value} {v : Value} (hw : wantA ops T o = true) (hop : o.op = .call c) (hc : c.callee = .value f) (hf : evo T f = .func (.func g) x y) (hg : Enters P g)
    (ha : x.toList ++ (evL T c.args.toList ++ y.toList) = as) (K : ACalls P g as (fun e h' => e = .ret v ∧ h' = h) h) (hT : putT T o.dst v = T') (q : PL P ops Q QP p (⟨i, o, T, v⟩ :: L) T' h) : PL P ops Q QP (.fl i o :: p) L T h := by
  subst hT
  have hp : pureOp o.op = false := by rw [hop]; simp only [pureOp, hc]
  refine .inl ⟨hw, v, .of hp (Float.call hop hc hf hg ha K), ?_⟩
  rw [hp]
  exact q
theorem PL.ef {v : Value} {e : HE} (hw : wantA ops T o = true) (hr : opA (tiOf P) T h.get h.next o.op = some (v, e)) (hT : putT T o.dst v = T') (hh : e.app h.next h = h') (hre : ReF P h' deps L) (q : PL P ops Q QP p (left deps L) T' h') : PL P ops Q QP (.ef i o deps :: p) L T h := by
  subst hT
  subst hh
  exact .inl ⟨hw, AOne.op (fun _ _ h => h) hr ⟨hre, q⟩⟩
theorem PL.efcall {c : Call} {f : Operand} {g : FuncId} {x y : Array Value} {as : List Value} {R : AEnd → Hp → Prop} (hw : wantA ops T o = true) (hop : o.op = .call c) (hc : c.callee = .value f) (hf : evo T f = .func (.func g) x y) (hg : Enters P g)
    (ha : x.toList ++ (evL T c.args.toList ++ y.toList) = as) (K : ACalls P g as R h) (hv : ∀ v h', R (.ret v) h' → ReF P h' deps L ∧ PL P ops Q QP p (left deps L) (putT T o.dst v) h') (hp : ∀ v h', R (.panic v) h' → QP v h') : PL P ops Q QP (.ef i o deps :: p) L T h := by
  subst ha
  refine .inl ⟨hw, AOne.call hop hc hf hg (K.mono fun e h' r => ?_)⟩
  cases e with
  | ret v => exact hv v h' r
  | panic v => exact hp v h' r
theorem PL.nil (q : Q .normal T h) : PL P ops Q QP [] L T h := q
theorem ReF.nil {d : List Nat} : ReF P h d [] := trivial
theorem ReF.dep {d : List Nat} {e : LP} {l : List LP} (he : memN e.i d = true) (k : ReF P h d l) : ReF P h d (e :: l) := ⟨.inl he, k⟩
theorem ReF.op {d : List Nat} {e : LP} {l : List LP} (hr : opA (tiOf P) e.T h.get h.next e.o.op = some (e.v, .keep)) (k : ReF P h d l) : ReF P h d (e :: l) := ⟨.inr (Float.op (fun _ _ h => h) hr), k⟩
theorem ReF.fl {d : List Nat} {e : LP} {l : List LP} (hr : Float P e.o e.T e.v h) (k : ReF P h d l) : ReF P h d (e :: l) := ⟨.inr hr, k⟩
end
end
end Go.Ab
/- Slices, by what they hold. -/
namespace Go.Ab
open Go.RowKit
def CapOK (c n sz : Nat) : Prop := c = U + sz ∨ (c < U ∧ n ≤ c)
/-- a slice of n elements of sz cells each -/
def IsSl (sz : Nat) (h : Hp) (v : Value) (cs : List Value) (n : Nat) : Prop :=
  cs.length = n * sz ∧ ((v = .slice none 0 0 ∧ n = 0) ∨ ∃ i o c ob ro e, v = .slice (some ⟨i, o, none⟩) n c ∧ i < h.next ∧ h.get i = some (.cells ob ro e) ∧ (n = 0 ∨ (ob.drop o).take (n * sz) = cs) ∧ CapOK c n sz)
def ints (l : List Int) : List Value := l.map (.int .i64)
@[simp] theorem ints_length (l : List Int) : (ints l).length = l.length := by simp [ints]
theorem ints_get? (l : List Int) (j : Nat) : (ints l)[j]? = l[j]?.map (.int .i64) := by simp [ints]
/-- the place of an element -/
def ptrAt (sz : Nat) (v : Value) (j : Nat) : Value := match v with | .slice (some a) _ _ => .pointer (some (addO (j * sz) a)) | _ => junk
/-- a part of a slice -/
def subV (P : Program) (t : Nat) (v : Value) (lo hi : Option Value) : Value := (sliceA (tiOf P) t v lo hi none).getD junk
section
variable {P : Program} {sz n : Nat} {h : Hp} {v : Value} {cs : List Value}
theorem IsSl.ov (hv : IsSl sz h v cs n) (L : List (Nat × AObj)) (k : Nat) : IsSl sz (ov h [] L k) v cs n := by
  obtain ⟨h0, h1 | ⟨i, o, c, ob, ro, e, h1, h2, h3, h4, h5⟩⟩ := hv
  · exact ⟨h0, .inl h1⟩
  · exact ⟨h0, .inr ⟨i, o, c, ob, ro, e, h1, by rw [ov_next]; unfold loc; omega, by rw [ov_low0 h2]; exact h3, h4, h5⟩⟩
theorem IsSl.len {get : Nat → Option AObj} {t e : Nat} {ti : TI} (hv : IsSl sz h v cs n) (ht : tiOf P t = some ti) (hk : ti.k = .sl e) : lenA (tiOf P) get t v = some (goInt n) := by
  obtain ⟨k, s, b, z, q⟩ := ti
  simp only at hk
  subst hk
  unfold lenA
  rw [ht]
  obtain ⟨_, ⟨rfl, rfl⟩ | ⟨i, o, c, ob, ro, e, rfl, _⟩⟩ := hv <;> rfl
theorem natOf_int {k : IntKind} {i : Int} (hi : 0 ≤ i) : natOf (.int k i) = some i.toNat := by
  cases i with
  | ofNat n => rfl
  | negSucc n => omega
theorem ble_true {a b : Nat} (h : a ≤ b) : Nat.ble a b = true := by simpa using h
theorem ble_false {a b : Nat} (h : b < a) : Nat.ble a b = false := by
  cases e : Nat.ble a b with
  | false => rfl
  | true => have := Nat.le_of_ble_eq_true e; omega
theorem beq_true {a b : Nat} (h : a = b) : Nat.beq a b = true := by simpa using h
theorem beq_false {a b : Nat} (h : a ≠ b) : Nat.beq a b = false := by
  cases e : Nat.beq a b with
  | false => rfl
  | true => exact absurd (Nat.eq_of_beq_eq_true e) h
theorem blt_true {a b : Nat} (h : a < b) : Nat.blt a b = true := blt_iff.2 h
theorem blt_false {a b : Nat} (h : b ≤ a) : Nat.blt a b = false := by
  cases e : Nat.blt a b with
  | false => rfl
  | true => have := blt_iff.1 e; omega
theorem unk_U (s : Nat) : unk (U + s) = true := by unfold unk; exact ble_true (by omega)
theorem unk_low {c : Nat} (h : c < U) : unk c = false := by unfold unk; exact ble_false h
theorem unk_small {c : Nat} (h : c < 18446744073709551616) : unk c = false := unk_low (by unfold U; omega)
theorem IsSl.idx {t e : Nat} {ti ei : TI} {k : IntKind} {i : Int} (hv : IsSl sz h v cs n) (ht : tiOf P t = some ti) (hk : ti.k = .sl e) (he : tiOf P e = some ei) (hs : ei.size = sz) (h0 : 0 ≤ i) (h1 : i < n) :
    indexAddrA (tiOf P) t v (.int k i) = some (ptrAt sz v i.toNat) := by
  obtain ⟨k, s, b, z, q⟩ := ti
  simp only at hk
  subst hk
  unfold indexAddrA
  rw [ht, natOf_int h0]
  obtain ⟨_, ⟨rfl, rfl⟩ | ⟨j, o, c, ob, ro, e', rfl, _⟩⟩ := hv
  · omega
  · obtain ⟨k2, s2, b2, z2, q2⟩ := ei
    simp only at hs
    subst hs
    simp only [he]
    rw [ble_true (by omega)]
    rfl
theorem ldN_some {get : Nat → Option AObj} {i o n : Nat} {c : List Value} {ro : Bool} {e : Nat} (hg : get i = some (.cells c ro e)) (hl : o + n ≤ c.length) : ldN get ⟨i, o, none⟩ n = some ((c.drop o).take n) := by
  unfold ldN
  simp only [hg, takeN_eq, dropN_eq]
  rw [beq_true (by simp; omega)]
  rfl
theorem IsSl.load {t : Nat} {ti : TI} {j : Nat} {r : Value} (hv : IsSl sz h v cs n) (ht : tiOf P t = some ti) (hs : ti.size = sz) (hz : 1 ≤ sz) (hj : j < n) (hr : pk ti.k ((cs.drop (j * sz)).take sz) = some r) (L : List (Nat × AObj)) (k : Nat) :
    loadA (tiOf P) (Ab.ov h [] L k).get t (ptrAt sz v j) = some r := by
  obtain ⟨h0, h1⟩ := hv.ov L k
  obtain ⟨rfl, rfl⟩ | ⟨i, o, c, ob, ro, e, rfl, h2, h3, h4, h5⟩ := h1
  · omega
  · have h4 := h4.resolve_left (by omega)
    have hm : (j + 1) * sz ≤ n * sz := Nat.mul_le_mul_right _ hj
    have hl : n * sz ≤ (ob.drop o).length := by
      have := congrArg List.length h4
      simp only [List.length_take] at this
      omega
    have hj' : j * sz + sz ≤ n * sz := by rw [Nat.succ_mul] at hm; exact hm
    simp only [List.length_drop] at hl
    unfold loadA ptrAt addO
    simp only [ht]
    rw [hs, ldN_some h3 (by omega)]
    simp only
    rw [← hr, ← h4]
    congr 1
    rw [List.drop_take, List.take_take, List.drop_drop, Nat.min_eq_left (by omega)]
theorem bound_none (d : Nat) : bound d none = some d := rfl
theorem bound_int {d : Nat} {k : IntKind} {i : Int} (hi : 0 ≤ i) : bound d (some (.int k i)) = some i.toNat := natOf_int hi
/-- parts of a slice are slices -/
theorem IsSl.sub {t e : Nat} {ti ei : TI} {lo hi : Option Value} {a b : Nat} (hv : IsSl sz h v cs n) (ht : tiOf P t = some ti) (hk : ti.k = .sl e) (he : tiOf P e = some ei) (hs : ei.size = sz) (ha : bound 0 lo = some a) (hb : bound n hi = some b) (h0 : ∀ x, hi = some x → bound 0 hi = some b) (hab : a ≤ b) (hbn : b ≤ n) :
    sliceA (tiOf P) t v lo hi none = some (subV P t v lo hi) ∧ IsSl sz h (subV P t v lo hi) ((cs.drop (a * sz)).take ((b - a) * sz)) (b - a) := by
  obtain ⟨k, s, bb, z, q⟩ := ti
  simp only at hk
  subst hk
  obtain ⟨k2, s2, b2, z2, q2⟩ := ei
  simp only at hs
  subst hs
  obtain ⟨hc, h1⟩ := hv
  have hlen : ((cs.drop (a * s2)).take ((b - a) * s2)).length = (b - a) * s2 := by
    simp only [List.length_take, List.length_drop, hc]
    have : b * s2 ≤ n * s2 := Nat.mul_le_mul_right _ hbn
    rw [Nat.sub_mul]
    have : a * s2 ≤ b * s2 := Nat.mul_le_mul_right _ hab
    omega
  obtain ⟨rfl, rfl⟩ | ⟨i, o, c, ob, ro, e', rfl, h2, h3, h4, h5⟩ := h1
  · have hb0 : b = 0 := by omega
    have ha0 : a = 0 := by omega
    subst hb0 ha0
    have : sliceA (tiOf P) t (.slice none 0 0) lo hi none = some (.slice none 0 0) := by
      unfold sliceA
      simp only [ht, he, ha, hb]
    exact ⟨by unfold subV; rw [this]; rfl, hlen, .inl ⟨by unfold subV; rw [this]; rfl, by omega⟩⟩
  · have hcut : n = 0 ∨ (ob.drop (o + a * s2)).take ((b - a) * s2) = (cs.drop (a * s2)).take ((b - a) * s2) := by
      rcases h4 with h4 | h4
      · exact .inl h4
      · refine .inr ?_
        rw [← h4, List.drop_take, List.take_take, List.drop_drop]
        congr 1
        have h6 : b * s2 ≤ n * s2 := Nat.mul_le_mul_right _ hbn
        rw [Nat.sub_mul]
        omega
    rcases h5 with rfl | ⟨h5, h6⟩
    · have : sliceA (tiOf P) t (.slice (some ⟨i, o, none⟩) n (U + s2)) lo hi none = some (.slice (some (addO (a * s2) ⟨i, o, none⟩)) (b - a) (U + s2)) := by
        unfold sliceA
        simp only [ht, he, ha, hb]
        rw [unk_U, ble_true hab, ble_true hbn, beq_true rfl]
        rfl
      refine ⟨by unfold subV; rw [this]; rfl, hlen, .inr ⟨i, o + a * s2, U + s2, ob, ro, e', by unfold subV; rw [this]; rfl, h2, h3, ?_, .inl rfl⟩⟩
      rcases hcut with h | h
      · exact .inl (by omega)
      · exact .inr h
    · have : sliceA (tiOf P) t (.slice (some ⟨i, o, none⟩) n c) lo hi none = some (.slice (some (bif Nat.beq c a then ⟨i, o, none⟩ else addO (a * s2) ⟨i, o, none⟩)) (b - a) (c - a)) := by
        unfold sliceA
        simp only [ht, he, ha, hb]
        rw [unk_low h5, ble_true hab, ble_true (show b ≤ c by omega)]
        rfl
      cases hca : Nat.beq c a with
      | true =>
        have hca' := Nat.eq_of_beq_eq_true hca
        rw [hca] at this
        refine ⟨by unfold subV; rw [this]; rfl, hlen, .inr ⟨i, o, c - a, ob, ro, e', ?_, h2, h3, .inl (by omega), .inr ⟨by omega, by omega⟩⟩⟩
        unfold subV
        rw [this]
        rfl
      | false =>
        rw [hca] at this
        refine ⟨by unfold subV; rw [this]; rfl, hlen, .inr ⟨i, o + a * s2, c - a, ob, ro, e', ?_, h2, h3, ?_, .inr ⟨by omega, by omega⟩⟩⟩
        · unfold subV
          rw [this]
          rfl
        · rcases hcut with h | h
          · exact .inl (by omega)
          · exact .inr h
end
end Go.Ab
