/- A part of the proof of a law over a given program: Mem5, Step. -/
import Derived.Calls
import Derived.Test.YtckgcmgnpblnaaaGreatDoorT05
set_option linter.unusedVariables false
set_option linter.unusedSimpArgs false
/- Copies; iterators; functions made. -/
namespace Go.Ab
open Go.RowKit
section
variable {P : Program} {ρ : Ren} {h : Hp} {w : World} {E : Nat → Option TI}
theorem blt_iff {a b : Nat} : Nat.blt a b = true ↔ a < b := by simp [Nat.blt, Nat.lt_iff_add_one_le]
def copyA (E : Nat → Option TI) (get : Nat → Option AObj) (t : Nat) (d s : Value) : Option (Value × HE) :=
  match E t with
  | some { k := .sl e, .. } =>
    (match E e, d, s with
    | some _, .slice none 0 0, .slice _ _ _ => some (goInt 0, .keep)
    | some _, .slice _ _ _, .slice none 0 0 => some (goInt 0, .keep)
    | some i, .slice (some a) dl _, .slice (some b) sl _ =>
      let n := bif Nat.ble sl dl then sl else dl
      bif Nat.beq n 0 then some (goInt 0, .keep) else
      (match ldN get b (n * i.size), a.spot, get a.block with
      | some cs, none, some (.cells c false el) =>
        bif ones cs then (match repl c a.off cs with | some c' => some (goInt n, .put a.block (.cells c' false el)) | none => none) else none
      | _, _, _ => none)
    | _, _, _ => none)
  | _ => none
theorem VR.slice_pos {a : Addr} {n k : Nat} {c : Value} (h : VR ρ (.slice (some a) n k) c) (hn : n ≠ 0) : ∃ l k', ρ a.block = some l ∧ a.spot = none ∧ c = .slice (some ⟨l.blk, l.off + a.off, none⟩) n k' := by
  obtain ⟨l, h1, h2, h3⟩ := h
  rcases h3 with ⟨k', rfl, _⟩ | ⟨rfl, _⟩
  · exact ⟨l, k', h1, h2, rfl⟩
  · exact absurd rfl hn
theorem VR.slice_zero {a : Option Addr} {k : Nat} {c : Value} (h : VR ρ (.slice a 0 k) c) : ∃ a' k', c = .slice a' 0 k' := h.slice_len
theorem firstCells_zero {c : Value} {a : Option Addr} {n k s : Nat} (h : c = .slice a n k) : (Builtin.firstCells s 0 c).run P w = .ok #[] w := by
  subst h
  cases a with
  | none => rfl
  | some a => simp [Builtin.firstCells, loadCells, loadCellsFrom]
theorem copyA_sound (hE : EnvOK P E) (H : HR P ρ h w) {t ty nid : Nat} {ts : Array Nat} {d s cd cs r : Value} {e : HE} (ht : ts[0]? = some t) (hd : VR ρ d cd) (hs : VR ρ s cs) (hr : copyA E h.get t d s = some (r, e)) (B : Nat) :
    ∃ w', (Builtin.copy_ ts ty #[cd, cs]).run P w = .ok r w' ∧ VR ρ r r ∧ HR P ρ (e.app nid h) w' ∧ Fr B ρ h w ρ (e.app nid h) w' := by
  unfold copyA at hr
  split at hr
  · rename_i el sz b z0 q hi
    obtain ⟨dd, inf, z, hti⟩ := tiOf_spec (hE _ _ hi)
    cases kOf_sl hti.k
    have nothing : ∀ {ei : TI} {a a' : Option Addr} {n m k k' : Nat}, E el = some ei → cd = .slice a n k → cs = .slice a' m k' → n = 0 ∨ m = 0 → (Builtin.copy_ ts ty #[cd, cs]).run P w = .ok (goInt 0) w := by
      intro ei a a' n m k k' hei h1 h2 h0
      obtain ⟨d2, inf2, z2, hti2⟩ := tiOf_spec (hE _ _ hei)
      have hmin : Nat.min m n = 0 := by rcases h0 with h | h <;> subst h <;> simp
      have hfc := firstCells_zero (P := P) (w := w) (s := inf2.size) h2
      subst h1
      have hl : (Builtin.lenOf cs).run P w = .ok m w := by subst h2; rfl
      cases a with
      | none => simp [Builtin.copy_, ht, run_underlying hti.und, hl, hmin, sizeOf, typeInfo, hti2.info, hfc]
      | some a => simp [Builtin.copy_, ht, run_underlying hti.und, hl, hmin, sizeOf, typeInfo, hti2.info, hfc, storeCells]
    split at hr
    · rename_i ei k1 n2 a2 hei
      cases hr
      obtain ⟨a', k', rfl⟩ := hs.slice_len
      exact ⟨w, nothing hei hd rfl (.inl rfl), rfl, H, Fr.refl _ _ _ _⟩
    · rename_i ei a2 n2 k1 _ hei
      cases hr
      obtain ⟨a', k', rfl⟩ := hd.slice_len
      exact ⟨w, nothing hei rfl hs (.inr rfl), rfl, H, Fr.refl _ _ _ _⟩
    · rename_i ei a dl dk b2 sl sk hei
      simp only at hr
      cases hn0 : Nat.beq (bif Nat.ble sl dl then sl else dl) 0 with
      | true =>
        rw [hn0] at hr
        cases hr
        obtain ⟨a1, k1, e1⟩ := hd.slice_len
        obtain ⟨a2, k2, e2⟩ := hs.slice_len
        refine ⟨w, nothing hei e1 e2 ?_, rfl, H, Fr.refl _ _ _ _⟩
        have := Nat.eq_of_beq_eq_true hn0
        cases hb : Nat.ble sl dl <;> rw [hb] at this
        · exact .inl this
        · exact .inr this
      | false =>
        rw [hn0] at hr
        simp only [cond_false] at hr
        generalize hgn : (bif Nat.ble sl dl then sl else dl) = n at *
        have hnm : Nat.min sl dl = n := by
          rw [← hgn]
          cases hb : Nat.ble sl dl with
          | true => have := Nat.le_of_ble_eq_true hb; simp [this]
          | false => have : ¬ sl ≤ dl := fun hh => by rw [Nat.ble_eq_true_of_le hh] at hb; cases hb
                     exact Nat.min_eq_right (by omega)
        have hn1 := Nat.ne_of_beq_eq_false hn0
        have hle : n ≤ sl ∧ n ≤ dl := by rw [← hnm]; exact ⟨Nat.min_le_left _ _, Nat.min_le_right _ _⟩
        split at hr
        · rename_i c2 c cel hld hsp hg
          cases ho : ones c2 with
          | false => rw [ho] at hr; cases hr
          | true =>
            rw [ho] at hr
            simp only [cond_true] at hr
            split at hr
            · rename_i c' hc'
              cases hr
              obtain ⟨l, k1, hl1, _, rfl⟩ := hd.slice_pos (by omega)
              obtain ⟨l2, k2, hl2, _, rfl⟩ := hs.slice_pos (by omega)
              obtain ⟨d2, inf2, z2, hti2⟩ := tiOf_spec (hE _ _ hei)
              obtain ⟨l3, g1, cc, g2, g3, g4⟩ := ldN_sound H hld
              rw [hl2] at g1; cases g1
              have hlc := run_loadCells_list (P := P) w _ cc g4
              rw [g3] at hlc
              obtain ⟨w', e1, e2, e3⟩ := put_cells H hg hl1 hc' g2 ho B
              refine ⟨w', ?_, rfl, e2, e3⟩
              have hsz := hti2.size
              rw [hsz] at hlc
              simp [Builtin.copy_, ht, run_underlying hti.und, Builtin.lenOf, hnm, sizeOf, typeInfo, hti2.info, Builtin.firstCells, hlc, e1]
            · cases hr
        · cases hr
    · cases hr
  · cases hr
def makeFuncA (fn : Fn) (a b : List Value) : Value := .func fn a.toArray b.toArray
/-- the next step of an iterator: all that may come -/
def isAsc (b : UInt8) : Bool := Nat.blt b.toNat 128
def memN (n : Nat) : List Nat → Bool
  | [] => false
  | m :: l => bif Nat.beq m n then true else memN n l
def notSeen (seen : List Nat) : List (Value × Value × Nat) → List (Value × Value × Nat)
  | [] => []
  | (k, v, b) :: l => bif memN b seen then notSeen seen l else (k, v, b) :: notSeen seen l
def anyOld (since : Nat) : List (Value × Value × Nat) → Bool
  | [] => false
  | (_, _, b) :: l => bif Nat.blt b since then true else anyOld since l
def allFrom (last : Nat) : List (Value × Value × Nat) → Bool
  | [] => true
  | (_, _, b) :: l => bif Nat.ble last b then allFrom last l else false
def isNil {α : Type} : List α → Bool
  | [] => true
  | _ => false
def steps (r : Nat) (m : Nat) (since : Nat) (seen : List Nat) (clock : Nat) : List (Value × Value × Nat) → List (Value × HE)
  | [] => []
  | (k, v, b) :: l => (.tuple #[.bool true, k, v], .put r (.iter (some m) since (seen ++ [b]) clock)) :: steps r m since seen clock l
def nextA (get : Nat → Option AObj) (x : Value) (isString : Bool) : Option (List (Value × HE)) :=
  match x with
  | .pointer (some ⟨r, 0, none⟩) =>
    (match get r, isString with
    | some (.siter s pos), true =>
      bif Nat.blt pos s.size then
        (match nth s.data.toList pos with
        | some b => bif isAsc b then some [(.tuple #[.bool true, goInt pos, .int .i32 b.toNat], .put r (.siter s (pos + 1)))] else none
        | none => none)
      else some [(.tuple #[.bool false], .keep)]
    | some (.iter none _ _ _), false => some [(.tuple #[.bool false], .keep)]
    | some (.iter (some m) since seen last), false =>
      (match get m with
      | some (.map es clock) =>
        bif !isNil seen && (!isNil es && allFrom last es) then none else
        let left := notSeen seen es
        some ((bif anyOld since left then [] else [(.tuple #[.bool false], .keep)]) ++ steps r m since seen clock left)
      | _ => none)
    | _, _ => none)
  | _ => none
theorem memN_spec : ∀ (l : List Nat) (n : Nat), memN n l = l.contains n
  | [], n => rfl
  | m :: l, n => by
    simp only [memN, List.contains_cons, memN_spec l n]
    cases hb : Nat.beq m n with
    | true => have := Nat.eq_of_beq_eq_true hb; subst this; simp
    | false => have := Nat.ne_of_beq_eq_false hb; have h2 : (n == m) = false := by simp; omega
               simp [h2]
theorem ER.notSeen (seen : List Nat) : ∀ {es : List (Value × Value × Nat)} {l : List MapEntry}, ER ρ es l → ER ρ (notSeen seen es) (l.filter fun e => !seen.contains e.born)
  | [], _, h => by cases h; exact rfl
  | (k, v, b) :: es, _, h => by
    obtain ⟨k', v', l', rfl, a, c, h⟩ := h
    have ih := ER.notSeen seen h
    simp only [Ab.notSeen, List.filter_cons, memN_spec]
    cases hb : seen.contains b with
    | true => simpa using ih
    | false => simp only [cond_false, Bool.not_false, if_true]; exact ⟨_, _, _, rfl, a, c, ih⟩
theorem anyOld_spec (since : Nat) : ∀ {es : List (Value × Value × Nat)} {l : List MapEntry}, ER ρ es l → anyOld since es = l.any fun e => decide (e.born < since)
  | [], _, h => by cases h; rfl
  | (k, v, b) :: es, _, h => by
    obtain ⟨k', v', l', rfl, a, c, h⟩ := h
    simp only [anyOld, List.any_cons, anyOld_spec since h]
    cases hb : Nat.blt b since with
    | true => have := blt_iff.1 hb
              simp [this]
    | false => have : ¬ b < since := fun hh => by have h2 := blt_iff.2 hh
                                                  rw [hb] at h2; cases h2
               simp [this]
theorem allFrom_spec (last : Nat) : ∀ {es : List (Value × Value × Nat)} {l : List MapEntry}, ER ρ es l → allFrom last es = l.all fun e => decide (e.born ≥ last)
  | [], _, h => by cases h; rfl
  | (k, v, b) :: es, _, h => by
    obtain ⟨k', v', l', rfl, a, c, h⟩ := h
    simp only [allFrom, List.all_cons, allFrom_spec last h]
    cases hb : Nat.ble last b with
    | true => have := Nat.le_of_ble_eq_true hb; simp [this]
    | false => have : ¬ last ≤ b := fun hh => by rw [Nat.ble_eq_true_of_le hh] at hb; cases hb
               simp [this]
theorem steps_mem {r m since clock : Nat} {seen : List Nat} : ∀ {es : List (Value × Value × Nat)} {l : List MapEntry} {e : MapEntry}, ER ρ es l → e ∈ l →
    ∃ k v, (Value.tuple #[.bool true, k, v], HE.put r (.iter (some m) since (seen ++ [e.born]) clock)) ∈ steps r m since seen clock es ∧ VR ρ k e.key ∧ VR ρ v e.val
  | [], _, e, h, hm => by cases h; cases hm
  | (k, v, b) :: es, _, e, h, hm => by
    obtain ⟨k', v', l', rfl, a, c, h⟩ := h
    simp only [steps]
    cases hm with
    | head => exact ⟨k, v, List.mem_cons_self, a, c⟩
    | tail _ hm =>
      obtain ⟨k2, v2, h1, h2⟩ := steps_mem h hm
      exact ⟨k2, v2, List.mem_cons_of_mem _ h1, h2⟩
theorem choose_run (q : Question) (w : World) : ∃ n w', (choose q).run P w = .ok n w' ∧ (w' = w ∨ w' = { w with drawn := w.drawn + 1 }) ∧ ((q.forced = true ∧ n = 0) ∨ n = q.cut (w.tape w.drawn q)) := by
  cases hf : q.forced with
  | true => exact ⟨0, w, by simp [choose, Sem.run, hf], .inl rfl, .inl ⟨rfl, rfl⟩⟩
  | false => exact ⟨q.cut (w.tape w.drawn q), { w with drawn := w.drawn + 1 }, by simp [choose, Sem.run, hf], .inr rfl, .inr rfl⟩
theorem decode_asc {s : ByteArray} {pos : Nat} {b : UInt8} (hb : nth s.data.toList pos = some b) (ha : isAsc b = true) : Utf8.decode s pos = (b.toNat, 1) := by
  rw [nth_eq] at hb
  have hg : s.get! pos = b := by
    have : s.data[pos]? = some b := by simpa using hb
    show s.data[pos]! = b
    rw [getElem!_def, this]
  have h2 : b.toNat < 128 := blt_iff.1 ha
  simp [Utf8.decode, hg, h2]
theorem nextA_sound (H : HR P ρ h w) {ty nid : Nat} {x c : Value} {str : Bool} {L : List (Value × HE)} (hx : VR ρ x c) (hr : nextA h.get x str = some L) (B : Nat) :
    ∃ r e, (r, e) ∈ L ∧ ∃ w' u, (Instr.next c str ty).run P w = .ok u w' ∧ VR ρ r u ∧ HR P ρ (e.app nid h) w' ∧ Fr B ρ h w ρ (e.app nid h) w' := by
  unfold nextA at hr
  split at hr
  · rename_i r
    obtain ⟨l, hl, _, rfl⟩ := hx
    split at hr
    · rename_i s pos hg
      obtain ⟨l', h1, h0, h2⟩ := H.live r _ hg
      rw [hl] at h1; cases h1
      have hget : (getObj l.blk).run P w = .ok (.stringIter s pos) w := by simp [getObj, Sem.run, h2]
      cases hlt : Nat.blt pos s.size with
      | true =>
        rw [hlt] at hr
        simp only [cond_true] at hr
        split at hr
        · rename_i b hb
          cases ha : isAsc b with
          | false => rw [ha] at hr; cases hr
          | true =>
            rw [ha] at hr
            cases hr
            have hd := decode_asc hb ha
            obtain ⟨g1, g2⟩ := put_obj (o' := .siter s (pos + 1)) (ob' := .stringIter s (pos + 1)) H hg rfl hl h2 ⟨h0, (MapKept.heap_set h2).1⟩ B
            refine ⟨_, _, List.mem_singleton_self _, _, .tuple #[.bool true, goInt pos, .int .i32 b.toNat], ?_, ⟨_, rfl, VRA.iff.2 ⟨_, _, rfl, rfl, _, _, rfl, rfl, _, _, rfl, rfl, rfl⟩⟩, g1, g2⟩
            have hlt' := blt_iff.1 hlt
            simp [Instr.next, h0, hget, hlt', hd, setObj, Sem.run, h2]
        · cases hr
      | false =>
        rw [hlt] at hr
        cases hr
        have hlt' : ¬ pos < s.size := fun hh => by have := blt_iff.2 hh; rw [hlt] at this; cases this
        refine ⟨_, _, List.mem_singleton_self _, w, .tuple #[.bool false], ?_, ⟨_, rfl, VRA.iff.2 ⟨_, _, rfl, rfl, rfl⟩⟩, H, Fr.refl _ _ _ _⟩
        simp [Instr.next, h0, hget, hlt']
    · rename_i since seen stepped hg
      cases hr
      obtain ⟨l', h1, h0, m', h2, rfl⟩ := H.live r _ hg
      rw [hl] at h1; cases h1
      have hget : (getObj l.blk).run P w = .ok (.mapIter none since seen.toArray stepped) w := by simp [getObj, Sem.run, h2]
      refine ⟨_, _, List.mem_singleton_self _, w, .tuple #[.bool false], ?_, ⟨_, rfl, VRA.iff.2 ⟨_, _, rfl, rfl, rfl⟩⟩, H, Fr.refl _ _ _ _⟩
      simp [Instr.next, h0, hget]
    · rename_i m since seen last hg
      obtain ⟨l', h1, h0, m', h2, lm, hlm, rfl⟩ := H.live r _ hg
      rw [hl] at h1; cases h1
      have hget : (getObj l.blk).run P w = .ok (.mapIter (some lm.blk) since seen.toArray last) w := by simp [getObj, Sem.run, h2]
      split at hr
      · rename_i es clock hgm
        obtain ⟨l2, cs, k1, k2, k3⟩ := H.map hgm
        rw [hlm] at k1; cases k1
        cases hc : (!isNil seen && (!isNil es && allFrom last es)) with
        | true => rw [hc] at hr; cases hr
        | false =>
          rw [hc] at hr
          cases hr
          have hleft := ER.notSeen seen k3
          have hbad : (!seen.toArray.isEmpty && !cs.isEmpty && cs.all fun e => decide (e.born ≥ last)) = false := by
            rw [allFrom_spec last k3] at hc
            have e1 : seen.toArray.isEmpty = isNil seen := by cases seen <;> rfl
            have e2 : cs.isEmpty = isNil es := by
              have hl := k3.length
              cases es with
              | nil => have : cs.size = 0 := by simpa using hl.symm
                       simp [isNil, Array.isEmpty, this]
              | cons a es => have : cs.size ≠ 0 := by have : cs.size = es.length + 1 := by simpa using hl.symm
                                                      omega
                             simp [isNil, Array.isEmpty, this]
            rw [e1, e2]
            simpa [Bool.and_assoc] using hc
          let left := cs.filter fun e => !seen.toArray.contains e.born
          let old := left.filter fun e => decide (e.born < since)
          let new := left.filter fun e => decide (e.born ≥ since)
          let cand := (if old.isEmpty then #[none] else #[]) ++ (old ++ new).map some
          have hrun : (Instr.next (.pointer (some ⟨l.blk, l.off + 0, none⟩)) false ty).run P w = ((do
              match cand[← choose (.mapNext cand.size)]? with
              | some (some e) =>
                setObj l.blk (.mapIter (some lm.blk) since (seen.toArray.push e.born) clock)
                pure (.tuple #[.bool true, e.key, e.val])
              | some none => pure (.tuple #[.bool false])
              | none => stuck "Next: no such candidate") : Sem Value).run P w := by
            have hbad' := hbad
            simp only [Instr.next, Sem.run_bind, h0, Nat.add_zero, hget, Result.andThen_ok, MapKept.run_getObj_map k2]
            rw [if_neg (by rw [hbad']; simp)]
            simp only [Sem.run_bind]
            rfl
          have hsize : cand.size ≠ 0 := by
            cases hoe : old.isEmpty with
            | true => simp [cand, hoe]
            | false => have : old.size ≠ 0 := by simpa [Array.isEmpty] using hoe
                       have h2 : cand.size = old.size + new.size := by simp [cand, hoe]
                       omega
          obtain ⟨n, w1, c1, c2, c3⟩ := choose_run (P := P) (.mapNext cand.size) w
          have hn : n < cand.size := by
            rcases c3 with ⟨_, rfl⟩ | rfl
            · omega
            · exact Nat.mod_lt _ (by omega)
          have H1 : HR P ρ h w1 := by rcases c2 with rfl | rfl; exact H; exact H.draw _
          have F1 : Fr B ρ h w ρ h w1 := by rcases c2 with rfl | rfl; exact Fr.refl _ _ _ _; exact Fr.draw _ _ _ _ _
          have hw1 : w1.heap = w.heap := by rcases c2 with rfl | rfl <;> rfl
          have hleftl : left.toList = cs.toList.filter fun e => !seen.contains e.born := by simp [left]
          rw [hrun]
          simp only [Sem.run_bind, c1, Result.andThen_ok]
          cases hcn : cand[n]? with
          | none => simp at hcn; omega
          | some o =>
            have hmem : o ∈ cand := Array.mem_of_getElem? hcn
            have hany := anyOld_spec since hleft
            cases o with
            | none =>
              have hoe : old.isEmpty = true := by
                cases hoe : old.isEmpty with
                | true => rfl
                | false => simp [cand, hoe] at hmem
              have hno : anyOld since (notSeen seen es) = false := by
                rw [hany, ← hleftl]
                simp only [old, Array.isEmpty_iff, Array.filter_eq_empty_iff] at hoe
                simp only [List.any_eq_false]
                intro x hx
                exact hoe x (by simpa using hx)
              refine ⟨.tuple #[.bool false], .keep, by rw [hno]; exact List.mem_append_left _ (List.mem_singleton_self _), w1, .tuple #[.bool false], rfl, ⟨_, rfl, VRA.iff.2 ⟨_, _, rfl, rfl, rfl⟩⟩, H1, F1⟩
            | some e =>
              have hin : e ∈ left.toList := by
                have : e ∈ old ++ new := by
                  simp only [cand, Array.mem_append] at hmem
                  rcases hmem with hm | hm
                  · split at hm <;> simp at hm
                  · simpa using hm
                simp only [Array.mem_append, old, new, Array.mem_filter] at this
                rcases this with h | h <;> simpa using h.1
              rw [hleftl] at hin
              obtain ⟨k, v, s1, s2, s3⟩ := steps_mem (r := r) (m := m) (since := since) (clock := clock) (seen := seen) hleft hin
              have h2' : w1.heap[l.blk]? = some (.mapIter (some lm.blk) since seen.toArray last) := by rw [hw1]; exact h2
              obtain ⟨g1, g2⟩ := put_obj (o' := .iter (some m) since (seen ++ [e.born]) clock) (ob' := .mapIter (some lm.blk) since (seen.toArray.push e.born) clock) H1 hg rfl hl h2' ⟨h0, some lm.blk, by simpa using (MapKept.heap_set h2').1, lm, hlm, rfl⟩ B
              refine ⟨_, _, List.mem_append_right _ s1, _, .tuple #[.bool true, e.key, e.val], ?_, ⟨_, rfl, VRA.iff.2 ⟨_, _, rfl, rfl, _, _, rfl, s2, _, _, rfl, s3, rfl⟩⟩, g1, F1.trans g2 (Nat.le_refl _)⟩
              simp [setObj, Sem.run, h2']
      · cases hr
    · cases hr
  · cases hr
end
end Go.Ab
/- Operations on the abstract heap, all in one. -/
namespace Go.Ab
open Go.RowKit
/-- what the abstract machine knows of a program -/
structure Env where
  ty : Nat → Option TI
  fn : Nat → Option Func
  meth : Nat → String → Option Nat
  ng : Nat
def evo (T : Nat → Value) : Operand → Value
  | .tmp t => T t
  | .const v => v
  | .global g => .pointer (some ⟨g, 0, none⟩)
  | .func f => .func (.func f) #[] #[]
/-- an operand whose value means the same in the abstract heap -/
def okO (ng : Nat) : Operand → Bool
  | .const v => flat v
  | .global g => Nat.blt g ng
  | _ => true
def okL (ng : Nat) : List Operand → Bool
  | [] => true
  | x :: l => bif okO ng x then okL ng l else false
def TR (ρ : Ren) (T : Nat → Value) (N : Nat) (a : Act) : Prop := a.tmps.size = N ∧ ∀ t : Nat, VR ρ (T t) (a.tmps.getD t undef)
def evL (T : Nat → Value) : List Operand → List Value
  | [] => []
  | x :: l => evo T x :: evL T l
def evP (T : Nat → Value) : List (Nat × Operand) → List (Nat × Value)
  | [] => []
  | (i, x) :: l => (i, evo T x) :: evP T l
def evOpt (T : Nat → Value) : Option Operand → Option Value
  | none => none
  | some x => some (evo T x)
def keep1 : Option Value → Option (Value × HE)
  | some v => some (v, .keep)
  | none => none
def put1 : Option HE → Option (Value × HE)
  | some e => some (undef, e)
  | none => none
def entryA (get : Nat → Option AObj) (x : Value) : Option Value :=
  match x with
  | .pointer (some ⟨r, 0, none⟩) =>
    (match get r with
    | some (.iter (some m) _ seen stepped) =>
      (match get m with
      | some (.map es clock) =>
        bif Nat.beq clock stepped then
          match seen.getLast? with
          | some b => (match es.find? fun e => Nat.beq e.2.2 b with | some (k, v, _) => some (.tuple #[k, v]) | none => none)
          | none => none
        else none
      | _ => none)
    | _ => none)
  | _ => none
def builtinA (E : Nat → Option TI) (get : Nat → Option AObj) (b : Builtin) (ts : List Nat) (xs : List Value) (nid : Nat) : Option (Value × HE) :=
  match b, ts, xs with
  | .len, t :: _, [x] => keep1 (lenA E get t x)
  | .cap, t :: _, [x] => keep1 (capA E t x)
  | .min, _, xs => keep1 (minmaxA false xs)
  | .max, _, xs => keep1 (minmaxA true xs)
  | .append, [t, t2], [s, x] => appendA E get t t2 s x nid
  | .copy, t :: _, [d, s] => copyA E get t d s
  | _, _, _ => none
def opA (E : Nat → Option TI) (T : Nat → Value) (get : Nat → Option AObj) (nid : Nat) : Op → Option (Value × HE)
  | .move x | .assign x => some (evo T x, .keep)
  | .pick c a b => (match evo T c with | .bool t => some (bif t then evo T a else evo T b, .keep) | _ => none)
  | .alloc t => allocA E t nid
  | .box t x => bif known (evo T x) then some (boxA t nid (evo T x)) else none
  | .build t ps => keep1 (buildA E t (evP T ps.toList))
  | .buildSlice t n ps => buildSliceA E t n (evP T ps.toList) nid
  | .load t a => keep1 (loadA E get t (evo T a))
  | .store t a x => put1 (storeA E get t (evo T a) (evo T x))
  | .nilCheck x => keep1 (nilA (evo T x))
  | .binOp op t x y _ => keep1 (binA E op t (evo T x) (evo T y))
  | .unOp op _ x => keep1 (unA op (evo T x))
  | .convert s d x => keep1 (convA E s d (evo T x))
  | .makeInterface t x => keep1 (mkIfaceA E t (evo T x))
  | .makeFunc fn a b => some (.func fn (evL T a.toList).toArray (evL T b.toList).toArray, .keep)
  | .makeMap _ r => makeMapA (evOpt T r) nid
  | .makeSlice t l c => makeSliceA E t (evo T l) (evo T c) nid
  | .slice t x lo hi mx => keep1 (sliceA E t (evo T x) (evOpt T lo) (evOpt T hi) (evOpt T mx))
  | .fieldAddr t x f => keep1 (fieldAddrA E t (evo T x) f)
  | .field t x f => keep1 (fieldA E t (evo T x) f)
  | .indexAddr t x i => keep1 (indexAddrA E t (evo T x) (evo T i))
  | .index t x i => keep1 (indexA E t (evo T x) (evo T i))
  | .lookup t x i ok => keep1 (lookupA E get t (evo T x) (evo T i) ok)
  | .mapUpdate t m k x | .insert t m k x => put1 (updA E get t (evo T m) (evo T k) (evo T x))
  | .range t x => rangeA E get t (evo T x) nid
  | .entry x => keep1 (entryA get (evo T x))
  | .typeAssert x _ t ok => keep1 (typeAssertA E (evo T x) t ok)
  | .extract x i => keep1 (extractA (evo T x) i)
  | .call c => (match c.callee with | .builtin b => builtinA E get b c.argTypes.toList (evL T c.args.toList) nid | _ => none)
  | _ => none
section
variable {P : Program} {ρ : Ren} {h : Hp} {w : World} {E : Nat → Option TI} {T : Nat → Value} {N : Nat} {a : Act}
theorem undef_eq : undef = .tuple #[] := rfl
theorem VR.undef : VR ρ undef undef := ⟨_, rfl, rfl⟩
theorem TR.mono {ρ' : Ren} (hl : Ren.le ρ ρ') (ht : TR ρ T N a) : TR ρ' T N a := ⟨ht.1, fun t => (ht.2 t).mono hl⟩
theorem evo_sound {ng : Nat} (H : HR P ρ h w) (hng : ng ≤ P.globals.size) (ht : TR ρ T N a) {x : Operand} (hok : okO ng x = true) : VR ρ (evo T x) (a.eval x) := by
  cases x with
  | tmp t => exact ht.2 t
  | const v => exact flat.vr hok
  | global g =>
    have := blt_iff.1 hok
    obtain ⟨l, h1, h2, h3⟩ := H.glob g (by omega)
    exact ⟨l, h1, rfl, by show Value.pointer (some ⟨g, 0, none⟩) = _; simp [h2, h3]⟩
  | func f => exact ⟨#[], #[], rfl, rfl, rfl⟩
theorem okL_mem {ng : Nat} : ∀ {l : List Operand}, okL ng l = true → ∀ x ∈ l, okO ng x = true
  | [], _, x, hx => by cases hx
  | y :: l, h, x, hx => by
    unfold okL at h
    cases hy : okO ng y with
    | false => rw [hy] at h; cases h
    | true =>
      rw [hy] at h
      cases hx with
      | head => exact hy
      | tail _ hx => exact okL_mem h x hx
section ev
variable {ev : Operand → Value}
theorem evL_sound : ∀ {l : List Operand}, (∀ x ∈ l, VR ρ (evo T x) (ev x)) → VRL ρ (evL T l) (l.map ev)
  | [], _ => rfl
  | x :: l, hl => ⟨_, _, rfl, hl x (by simp), evL_sound fun y hy => hl y (by simp [hy])⟩
theorem evP_sound : ∀ {l : List (Nat × Operand)}, (∀ x ∈ l, VR ρ (evo T x.2) (ev x.2)) → VRP ρ (evP T l) (l.map fun (i, x) => (i, ev x))
  | [], _ => rfl
  | (i, x) :: l, hl => ⟨_, _, rfl, hl (i, x) (by simp), evP_sound fun y hy => hl y (by simp [hy])⟩
theorem evOpt_sound {o : Option Operand} (ho : ∀ x ∈ o.toList, VR ρ (evo T x) (ev x)) : VRO ρ (evOpt T o) (o.map ev) := by
  cases o with
  | none => rfl
  | some x => exact ⟨_, rfl, ho x (by simp)⟩
end ev
theorem nilA_sound {ev : Operand → Value} {o : Oper} {x : Operand} {r : Value} (hop : o.op = .nilCheck x) (hx : VR ρ (evo T x) (ev x)) (hr : nilA (evo T x) = some r) :
    ∃ u, (execOp ev o).run P w = .ok (.value u) w ∧ VR ρ r u := by
  unfold nilA at hr
  split at hr
  · rename_i hv
    cases hr
    rw [hv] at hx
    obtain ⟨l, h1, h2, h3⟩ := hx
    exact ⟨_, by simp [execOp, hop, h3], l, h1, h2, rfl⟩
  · rename_i hv
    cases hr
    rw [hv] at hx
    obtain ⟨v', h3, h1⟩ := hx
    exact ⟨_, by simp [execOp, hop, h3], v', rfl, h1⟩
  · rename_i hv
    cases hr
    rw [hv] at hx
    obtain ⟨x', y', h3, h1, h2⟩ := hx
    exact ⟨_, by simp [execOp, hop, h3], x', y', rfl, h1, h2⟩
  · cases hr
theorem ER.find {b : Nat} : ∀ {es : List (Value × Value × Nat)} {l : List MapEntry} {k v : Value} {c : Nat}, ER ρ es l → (es.find? fun e => Nat.beq e.2.2 b) = some (k, v, c) → ∃ e, (l.find? fun e => e.born == b) = some e ∧ VR ρ k e.key ∧ VR ρ v e.val
  | [], _, _, _, _, h, hf => by cases hf
  | (k, v, c) :: es, _, k2, v2, c2, h, hf => by
    obtain ⟨k', v', l', rfl, h1, h2, h3⟩ := h
    simp only [List.find?_cons] at hf ⊢
    cases hc : Nat.beq c b with
    | true =>
      rw [hc] at hf
      cases hf
      have := Nat.eq_of_beq_eq_true hc
      exact ⟨⟨k', v', c⟩, by simp [this], h1, h2⟩
    | false =>
      rw [hc] at hf
      have := Nat.ne_of_beq_eq_false hc
      obtain ⟨e, e1, e2⟩ := ER.find h3 hf
      have hb : (c == b) = false := by simpa using this
      exact ⟨e, by rw [hb, e1], e2⟩
theorem entryA_sound (H : HR P ρ h w) {x c r : Value} (hx : VR ρ x c) (hr : entryA h.get x = some r) : ∃ u, (Instr.entry c).run P w = .ok u w ∧ VR ρ r u := by
  unfold entryA at hr
  split at hr
  · rename_i i
    obtain ⟨l, hl, _, rfl⟩ := hx
    split at hr
    · rename_i m since seen stepped hg
      obtain ⟨l', h1, h0, m', h2, lm, hlm, rfl⟩ := H.live i _ hg
      rw [hl] at h1; cases h1
      split at hr
      · rename_i es clock hgm
        obtain ⟨l2, cs, k1, k2, k3⟩ := H.map hgm
        rw [hlm] at k1; cases k1
        cases hc : Nat.beq clock stepped with
        | false => rw [hc] at hr; cases hr
        | true =>
          rw [hc] at hr
          simp only [cond_true] at hr
          split at hr
          · rename_i b hb
            split at hr
            · rename_i k v c hf
              cases hr
              obtain ⟨e, e1, e2, e3⟩ := ER.find k3 hf
              have hback : seen.toArray.back? = some b := by rw [← hb]; simp
              have hcl := Nat.eq_of_beq_eq_true hc
              have hget : (getObj l.blk).run P w = .ok (.mapIter (some lm.blk) since seen.toArray stepped) w := by simp [getObj, Sem.run, h2]
              have hfind : (cs.find? fun e => e.born == b) = some e := by rw [← Array.find?_toList]; exact e1
              refine ⟨.tuple #[e.key, e.val], ?_, _, rfl, VRA.iff.2 ⟨_, _, rfl, e2, _, _, rfl, e3, rfl⟩⟩
              simp [Instr.entry, h0, hget, hback, MapKept.run_getObj_map k2, hcl, hfind]
            · cases hr
          · cases hr
      · cases hr
    · cases hr
  · cases hr
/-- an operation run in a world: its value, and the heap behind it -/
def Runs (P : Program) (ρ : Ren) (h : Hp) (w : World) (B nid : Nat) (r : Result Next) (v : Value) (e : HE) : Prop :=
  ∃ ρ' w' u, (r = .ok (.value u) w' ∨ (r = .ok .skip w' ∧ u = undef)) ∧ VR ρ' v u ∧ HR P ρ' (e.app nid h) w' ∧ Fr B ρ h w ρ' (e.app nid h) w'
theorem Runs.pure {B nid : Nat} {s : Sem Value} {r : Result Next} {v : Value} (H : HR P ρ h w) (hs : ∃ u, s.run P w = .ok u w ∧ VR ρ v u) (hr : r = (do return .value (← s) : Sem Next).run P w) : Runs P ρ h w B nid r v .keep := by
  obtain ⟨u, h1, h2⟩ := hs
  exact ⟨ρ, w, u, .inl (by rw [hr]; simp [h1]), h2, H, Fr.refl _ _ _ _⟩
theorem Runs.eff {B nid : Nat} {s : Sem Value} {r : Result Next} {v : Value} {e : HE} (hs : ∃ ρ' u w', s.run P w = .ok u w' ∧ VR ρ' v u ∧ HR P ρ' (e.app nid h) w' ∧ Fr B ρ h w ρ' (e.app nid h) w') (hr : r = (do return .value (← s) : Sem Next).run P w) : Runs P ρ h w B nid r v e := by
  obtain ⟨ρ', u, w', h1, h2, h3, h4⟩ := hs
  exact ⟨ρ', w', u, .inl (by rw [hr]; simp [h1]), h2, h3, h4⟩
theorem Runs.put {B nid : Nat} {s : Sem Unit} {r : Result Next} {e : HE} (hs : ∃ w', s.run P w = .ok () w' ∧ HR P ρ (e.app nid h) w' ∧ Fr B ρ h w ρ (e.app nid h) w') (hr : r = (do s; return .skip : Sem Next).run P w) : Runs P ρ h w B nid r undef e := by
  obtain ⟨w', h1, h2, h3⟩ := hs
  exact ⟨ρ, w', undef, .inr ⟨by rw [hr]; simp [h1], rfl⟩, VR.undef, h2, h3⟩
theorem keep1_spec {o : Option Value} {v : Value} {e : HE} (h : keep1 o = some (v, e)) : o = some v ∧ e = .keep := by
  cases o with
  | none => cases h
  | some x => cases h; exact ⟨rfl, rfl⟩
theorem put1_spec {o : Option HE} {v : Value} {e : HE} (h : put1 o = some (v, e)) : o = some e ∧ v = undef := by
  cases o with
  | none => cases h
  | some x => cases h; exact ⟨rfl, rfl⟩
theorem arr1 {α : Type} {x : Array α} {a : α} (h : x.toList = [a]) : x = #[a] := by cases x; simp_all
theorem arr2 {α : Type} {x : Array α} {a b : α} (h : x.toList = [a, b]) : x = #[a, b] := by cases x; simp_all
theorem evL_one {l : List Operand} {x : Value} (h : evL T l = [x]) : ∃ o, l = [o] ∧ x = evo T o := by
  cases l with
  | nil => cases h
  | cons o l =>
    cases l with
    | nil => cases h; exact ⟨o, rfl, rfl⟩
    | cons p l => cases h
theorem builtin_sound {ev : Operand → Value} (hE : EnvOK P E) (H : HR P ρ h w) {c : Call} {ty : TypeId} {b : Builtin} {v : Value} {e : HE} {nid : Nat}
    (V : ∀ x ∈ c.args.toList, VR ρ (evo T x) (ev x)) (hr : builtinA E h.get b c.argTypes.toList (evL T c.args.toList) nid = some (v, e)) (hn : h.get nid = none) {B : Nat} (hB : B ≤ nid) (consts : Array Bool) :
    Runs P ρ h w B nid ((builtin b c.argTypes ty consts (c.args.map ev)).run P w) v e := by
  have hv := evL_sound V
  have hm : (c.args.map ev).toList = c.args.toList.map ev := by simp
  rw [← hm] at hv
  generalize hxs : evL T c.args.toList = xs at *
  unfold builtinA at hr
  split at hr
  · rename_i t ts x hts
    obtain ⟨hq, rfl⟩ := keep1_spec hr
    obtain ⟨c', l', h1, h2, h3⟩ := hv
    cases h3
    rw [arr1 h1]
    have h0 : c.argTypes[0]? = some t := by rw [← Array.getElem?_toList, hts]; rfl
    exact Runs.pure H ⟨v, lenA_sound hE H h0 h2 hq⟩ rfl
  · rename_i t ts x hts
    obtain ⟨hq, rfl⟩ := keep1_spec hr
    obtain ⟨c', l', h1, h2, h3⟩ := hv
    cases h3
    rw [arr1 h1]
    have h0 : c.argTypes[0]? = some t := by rw [← Array.getElem?_toList, hts]; rfl
    exact Runs.pure H ⟨v, capA_sound hE h0 h2 hq⟩ rfl
  · obtain ⟨hq, rfl⟩ := keep1_spec hr
    exact Runs.pure H ⟨v, minA_sound hv hq⟩ rfl
  · obtain ⟨hq, rfl⟩ := keep1_spec hr
    exact Runs.pure H ⟨v, maxA_sound hv hq⟩ rfl
  · rename_i t t2 s x hts
    obtain ⟨c', l', h1, h2, c2, l2, h4, h5, h6⟩ := hv
    cases h6
    subst h4
    rw [arr2 h1, arr2 hts]
    exact Runs.eff (appendA_sound hE H h2 h5 hr hn hB) rfl
  · rename_i t ts d s hts
    obtain ⟨c', l', h1, h2, c2, l2, h4, h5, h6⟩ := hv
    cases h6
    subst h4
    rw [arr2 h1]
    have h0 : c.argTypes[0]? = some t := by rw [← Array.getElem?_toList, hts]; rfl
    obtain ⟨w', e1, e2, e3, e4⟩ := copyA_sound (nid := nid) (ty := ty) hE H h0 h2 h5 hr B
    exact Runs.eff ⟨ρ, v, w', e1, e2, e3, e4⟩ rfl
  · cases hr
theorem opE_sound {ev : Operand → Value} (hE : EnvOK P E) (H : HR P ρ h w) {o : Oper} {v : Value} {e : HE} {nid : Nat}
    (V : ∀ x ∈ o.op.operands.toList, VR ρ (evo T x) (ev x)) (hr : opA E T h.get nid o.op = some (v, e)) (hn : h.get nid = none) {B : Nat} (hB : B ≤ nid) :
    Runs P ρ h w B nid ((execOp ev o).run P w) v e := by
  unfold opA at hr
  split at hr <;> rename_i hop
  · -- move
    cases hr
    exact ⟨ρ, w, _, .inl (by simp [execOp, hop]), V _ (by simp [hop, Op.operands]), H, Fr.refl _ _ _ _⟩
  · cases hr
    exact ⟨ρ, w, _, .inl (by simp [execOp, hop]), V _ (by simp [hop, Op.operands]), H, Fr.refl _ _ _ _⟩
  · -- pick
    rename_i c x y
    split at hr
    · rename_i t hc
      cases hr
      have hb := V c (by simp [hop, Op.operands])
      rw [hc] at hb
      have hx := V x (by simp [hop, Op.operands])
      have hy := V y (by simp [hop, Op.operands])
      refine ⟨ρ, w, _, .inl (by simp [execOp, hop, VR.bool hb, asBool]; rfl), ?_, H, Fr.refl _ _ _ _⟩
      cases t with
      | true => exact hx
      | false => exact hy
    · cases hr
  · exact Runs.eff (allocA_sound hE H hr hn hB) (by simp [execOp, hop])
  · rename_i t x
    cases hj : known (evo T x) with
    | false => rw [hj] at hr; cases hr
    | true =>
      rw [hj] at hr
      cases hr
      exact Runs.eff (boxA_sound H hj (V x (by simp [hop, Op.operands])) hn hB) (by simp [execOp, hop])
  · -- build
    rename_i t ps
    obtain ⟨hq, rfl⟩ := keep1_spec hr
    have hp := evP_sound (l := ps.toList) (fun x hx => V _ (by simp only [hop, Op.operands, List.mem_map]; exact ⟨x, hx, rfl⟩))
    have hp' : VRP ρ (evP T ps.toList) (ps.map fun (i, x) => (i, ev x)).toList := by simpa using hp
    exact Runs.pure H (buildA_sound hE hp' hq) (by simp [execOp, hop])
  · rename_i t n ps
    have hp := evP_sound (l := ps.toList) (fun x hx => V _ (by simp only [hop, Op.operands, List.mem_map]; exact ⟨x, hx, rfl⟩))
    have hp' : VRP ρ (evP T ps.toList) (ps.map fun (i, x) => (i, ev x)).toList := by simpa using hp
    exact Runs.eff (buildSliceA_sound hE H hp' hr hn hB) (by simp [execOp, hop])
  · rename_i t x
    obtain ⟨hq, rfl⟩ := keep1_spec hr
    exact Runs.pure H (loadA_sound hE H (V x (by simp [hop, Op.operands])) hq) (by simp [execOp, hop])
  · rename_i t x y
    obtain ⟨hq, rfl⟩ := put1_spec hr
    exact Runs.put (storeA_sound hE H (V x (by simp [hop, Op.operands])) (V y (by simp [hop, Op.operands])) hq nid B) (by simp [execOp, hop])
  · rename_i x
    obtain ⟨hq, rfl⟩ := keep1_spec hr
    obtain ⟨u, h1, h2⟩ := nilA_sound (P := P) (w := w) (o := o) hop (V x (by simp [hop, Op.operands])) hq
    exact ⟨ρ, w, u, .inl h1, h2, H, Fr.refl _ _ _ _⟩
  · rename_i op t x y yt
    obtain ⟨hq, rfl⟩ := keep1_spec hr
    exact Runs.pure H ⟨v, binA_sound hE x y (V x (by simp [hop, Op.operands])) (V y (by simp [hop, Op.operands])) hq⟩ (by simp [execOp, hop])
  · rename_i op t x
    obtain ⟨hq, rfl⟩ := keep1_spec hr
    exact Runs.pure H ⟨v, unA_sound (V x (by simp [hop, Op.operands])) hq⟩ (by simp [execOp, hop])
  · rename_i s d x
    obtain ⟨hq, rfl⟩ := keep1_spec hr
    exact Runs.pure H ⟨v, convA_sound hE (V x (by simp [hop, Op.operands])) hq⟩ (by simp [execOp, hop])
  · rename_i t x
    obtain ⟨hq, rfl⟩ := keep1_spec hr
    exact Runs.pure H (mkIfaceA_sound hE (V x (by simp [hop, Op.operands])) hq) (by simp [execOp, hop])
  · rename_i fn x y
    cases hr
    have h1 := evL_sound (l := x.toList) (fun z hz => V _ (by simp [hop, Op.operands]; exact .inl (by simpa using hz)))
    have h2 := evL_sound (l := y.toList) (fun z hz => V _ (by simp [hop, Op.operands]; exact .inr (by simpa using hz)))
    refine ⟨ρ, w, .func fn (x.map ev) (y.map ev), .inl (by simp [execOp, hop, Instr.makeFunc]), ⟨_, _, rfl, ?_, ?_⟩, H, Fr.refl _ _ _ _⟩
    · exact VRA.iff.2 (by simpa using h1)
    · exact VRA.iff.2 (by simpa using h2)
  · rename_i t x
    exact Runs.eff (makeMapA_sound (t := t) H (evOpt_sound (fun z hz => V _ (by simpa [hop, Op.operands] using hz))) hr hn hB) (by simp [execOp, hop])
  · rename_i t x y
    exact Runs.eff (makeSliceA_sound hE H (V x (by simp [hop, Op.operands])) (V y (by simp [hop, Op.operands])) hr hn hB) (by simp [execOp, hop])
  · rename_i t x lo hi mx
    obtain ⟨hq, rfl⟩ := keep1_spec hr
    exact Runs.pure H (sliceA_sound hE (V x (by simp [hop, Op.operands])) (evOpt_sound (fun z hz => V _ (by simp [hop, Op.operands]; exact .inr (.inl (by simpa using hz)))))
      (evOpt_sound (fun z hz => V _ (by simp [hop, Op.operands]; exact .inr (.inr (.inl (by simpa using hz)))))) (evOpt_sound (fun z hz => V _ (by simp [hop, Op.operands]; exact .inr (.inr (.inr (by simpa using hz)))))) hq) (by simp [execOp, hop])
  · rename_i t x f
    obtain ⟨hq, rfl⟩ := keep1_spec hr
    exact Runs.pure H (fieldAddrA_sound hE (V x (by simp [hop, Op.operands])) hq) (by simp [execOp, hop])
  · rename_i t x f
    obtain ⟨hq, rfl⟩ := keep1_spec hr
    exact Runs.pure H (fieldA_sound hE (V x (by simp [hop, Op.operands])) hq) (by simp [execOp, hop])
  · rename_i t x i
    obtain ⟨hq, rfl⟩ := keep1_spec hr
    exact Runs.pure H (indexAddrA_sound hE (V x (by simp [hop, Op.operands])) (V i (by simp [hop, Op.operands])) hq) (by simp [execOp, hop])
  · rename_i t x i
    obtain ⟨hq, rfl⟩ := keep1_spec hr
    exact Runs.pure H (indexA_sound hE (V x (by simp [hop, Op.operands])) (V i (by simp [hop, Op.operands])) hq) (by simp [execOp, hop])
  · rename_i t x i ok
    obtain ⟨hq, rfl⟩ := keep1_spec hr
    exact Runs.pure H (lookupA_sound hE H (V x (by simp [hop, Op.operands])) (V i (by simp [hop, Op.operands])) hq) (by simp [execOp, hop])
  · rename_i t m k x
    obtain ⟨hq, rfl⟩ := put1_spec hr
    exact Runs.put (updA_sound hE H (V m (by simp [hop, Op.operands])) (V k (by simp [hop, Op.operands])) (V x (by simp [hop, Op.operands])) hq nid B) (by simp [execOp, hop])
  · rename_i t m k x
    obtain ⟨hq, rfl⟩ := put1_spec hr
    exact Runs.put (updA_sound hE H (V m (by simp [hop, Op.operands])) (V k (by simp [hop, Op.operands])) (V x (by simp [hop, Op.operands])) hq nid B) (by simp [execOp, hop])
  · rename_i t x
    exact Runs.eff (rangeA_sound hE H (V x (by simp [hop, Op.operands])) hr hn hB) (by simp [execOp, hop])
  · rename_i x
    obtain ⟨hq, rfl⟩ := keep1_spec hr
    exact Runs.pure H (entryA_sound H (V x (by simp [hop, Op.operands])) hq) (by simp [execOp, hop])
  · rename_i x xt t ok
    obtain ⟨hq, rfl⟩ := keep1_spec hr
    exact Runs.pure H (typeAssertA_sound (xt := xt) hE (V x (by simp [hop, Op.operands])) hq) (by simp [execOp, hop])
  · rename_i x i
    obtain ⟨hq, rfl⟩ := keep1_spec hr
    exact Runs.pure H (extractA_sound (V x (by simp [hop, Op.operands])) hq) (by simp [execOp, hop])
  · rename_i c
    split at hr
    · rename_i b hb
      have V' : ∀ x ∈ c.args.toList, VR ρ (evo T x) (ev x) := by simpa [hop, Op.operands, Call.operands, hb] using V
      have := builtin_sound (ty := o.type) hE H V' hr hn hB (c.args.map fun | .const _ => true | _ => false)
      have hex : (execOp ev o).run P w = (builtin b c.argTypes o.type (c.args.map fun | .const _ => true | _ => false) (c.args.map ev)).run P w := by
        simp [execOp, hop, resolve, hb, invoke]
        rfl
      rw [hex]
      exact this
    · cases hr
  · cases hr
theorem opA_sound {ng : Nat} (hE : EnvOK P E) (H : HR P ρ h w) (hng : ng ≤ P.globals.size) (ht : TR ρ T N a) {o : Oper} {v : Value} {e : HE} {nid : Nat}
    (hok : okL ng o.op.operands.toList = true) (hr : opA E T h.get nid o.op = some (v, e)) (hn : h.get nid = none) {B : Nat} (hB : B ≤ nid) :
    Runs P ρ h w B nid ((execOp a.eval o).run P w) v e := opE_sound hE H (fun x hx => evo_sound H hng ht (okL_mem hok x hx)) hr hn hB
end
end Go.Ab
