/- A part of the proof of a law over a given program: Mem2. -/
import Derived.Test.YtckgcmgnpblnaaaGreatDoorT03
set_option linter.unusedVariables false
set_option linter.unusedSimpArgs false
/- append and copy. -/
namespace Go.Ab
open Go.RowKit
section
variable {P : Program} {ρ : Ren} {h : Hp} {w : World} {E : Nat → Option TI}
/-- an object that is given up -/
theorem HR.kill (H : HR P ρ h w) {i : Nat} {o : AObj} (hi : h.get i = some o) : HR P ρ (h.set i .dead) w := by
  refine ⟨fun j hj => ?_, fun j l hj => ?_, fun j oj hj => ?_, fun a b oa ob la lb ha hb hne hwa hlb hra hrb => ?_, H.glob⟩
  · simp only [Hp.get_set, Hp.next_set] at *
    split at hj
    · rename_i e; subst e; exact H.lt j (by rw [hi]; simp)
    · exact H.lt j hj
  · simp only [Hp.get_set]
    have := H.dom j l hj
    split <;> simp [this]
  · simp only [Hp.get_set] at hj
    split at hj
    · rename_i e; subst e; cases hj
      obtain ⟨l, h1, _⟩ := H.live j o hi
      exact ⟨l, h1, trivial⟩
    · exact H.live j oj hj
  · simp only [Hp.get_set] at ha hb
    split at ha
    · cases ha; cases hwa
    · split at hb
      · cases hb; cases hlb
      · exact H.inj a b oa ob la lb ha hb hne hwa hlb hra hrb
theorem Fr.kill {B : Nat} {i : Nat} {o : AObj} (hi : h.get i = some o) : Fr B ρ h w ρ (h.set i .dead) w := by
  refine ⟨fun _ _ _ h => h, rfl, rfl, rfl, Nat.le_refl _, Nat.min_le_right _ _, fun _ _ _ => rfl, fun b _ ho => ?_, fun b _ ho => ?_, fun j _ hn => ?_⟩
  · obtain ⟨j, oj, lj, h1, h2, h3, h4⟩ := ho
    simp only [Hp.get_set] at h1
    split at h1
    · cases h1; cases h2
    · exact ⟨j, oj, lj, h1, h2, h3, h4⟩
  · obtain ⟨j, oj, lj, h1, h2, h3, h4⟩ := ho
    simp only [Hp.get_set] at h1
    split at h1
    · cases h1; cases h2
    · exact ⟨j, oj, lj, h1, h2, h3, h4⟩
  · simp only [Hp.get_set]
    split
    · rename_i e; subst e; rw [hi] at hn; cases hn
    · exact hn
/-- what 'append' is handed behind its slice -/
inductive Tail where
  | slice | string | zeros
def tailOf (E : Nat → Option TI) (t : Nat) : Option Tail :=
  match E t with
  | some { k := .sl _, .. } => some .slice
  | some { k := .str, .. } => some .string
  | some { k := .int _, .. } => some .zeros
  | _ => none
def byteV (b : UInt8) : Value := .int .u8 b.toNat
def bytesV : List UInt8 → List Value
  | [] => []
  | b :: l => byteV b :: bytesV l
theorem bytesV_eq (l : List UInt8) : bytesV l = l.map byteV := by induction l <;> simp_all [bytesV]
/-- how many elements, and their cells -/
def tailCells (get : Nat → Option AObj) (i : TI) (k : Tail) (x : Value) : Option (Nat × List Value) :=
  match k, x with
  | .slice, .slice none 0 0 => some (0, [])
  | .slice, .slice (some b) m _ => (match ldN get b (m * i.size) with | some cs => some (m, cs) | none => bif Nat.beq m 0 then some (0, []) else none)
  | .string, .string s => bif Nat.beq i.size 1 then some (s.size, bytesV s.data.toList) else none
  | .zeros, .int _ (.ofNat n) => bif Nat.ble n 1048576 then some (n, zrep n i.zero) else none
  | _, _ => none
/-- that a tail's cells are read, whatever is drawn -/
structure TailRun (P : Program) (ρ : Ren) (w : World) (t2 : Nat) (inf : TypeInfo) (elem : Nat) (z : Value) (x : Value) (m : Nat) (new : List Value) (us : List Value) : Prop where
  vr : VRL ρ new us
  len : new.length = m * inf.size
  fit : ∀ (t ty : Nat) (base : Option Addr) (n c : Nat), P.underlying t = some (.slice elem) → n + m ≤ c → (∀ b, base = some b → b.spot = none) →
    (Builtin.append_ #[t, t2] ty #[.slice base n c, x]).run P w = (((match base with | some a => storeCells (a.add (n * inf.size)) us | none => pure ()) : Sem Unit).run P w).andThen (fun _ w' => .ok (.slice base (n + m) c) w')
  grow : ∀ (t ty : Nat) (base : Option Addr) (n c : Nat) (olds : List Value), P.underlying t = some (.slice elem) → c < n + m → ((n + m : Nat) : Int) ≤ 1099511627776 → Builtin.nextslicecap (n + m) c * inf.bytes ≤ 281474976710656 → inf.bytes ≠ 0 →
    olds.length = n * inf.size → (∀ b, base = some b → ∀ j v, olds[j]? = some v → w.cell? (b.add j) = some v) → (base = none → n = 0) →
    (Builtin.append_ #[t, t2] ty #[.slice base n c, x]).run P w = .ok (.slice (some ⟨w.heap.size, 0, none⟩) (n + m) (grownCap w (n + m) c elem))
        (w.drew.alloc (.cells (olds.toArray ++ us.toArray ++ Builtin.zeroCells z.cells (grownCap w (n + m) c elem - (n + m))) elem))
theorem firstCells_old {inf : TypeInfo} {base : Option Addr} {n c : Nat} {olds : List Value} (w : World) (hl : olds.length = n * inf.size) (ho : ∀ b, base = some b → ∀ j v, olds[j]? = some v → w.cell? (b.add j) = some v) (hb : base = none → n = 0) :
    (Builtin.firstCells inf.size n (.slice base n c)).run P w = .ok olds.toArray w := by
  cases base with
  | none =>
    have := hb rfl
    subst this
    have : olds = [] := List.eq_nil_of_length_eq_zero (by simpa using hl)
    subst this
    rfl
  | some b =>
    have := run_loadCells_list (P := P) w b olds (ho b rfl)
    rw [hl] at this
    simpa [Builtin.firstCells] using this
theorem tail_slice {t2 e2 : Nat} {inf : TypeInfo} {elem : Nat} {z : Value} {x : Value} {m : Nat} {new us : List Value} (hu : P.underlying t2 = some (.slice e2)) (hi : P.info? elem = some inf) (hz : inf.zero = some z)
    (hv : VRL ρ new us) (hl : new.length = m * inf.size) (hlen : ∀ w, (Builtin.lenOf x).run P w = .ok m w) (hf : ∀ n, (Builtin.firstCells inf.size m x).run P { w with drawn := n } = .ok us.toArray { w with drawn := n }) :
    TailRun P ρ w t2 inf elem z x m new us := by
  refine ⟨hv, hl, fun t ty base n c ht hfit hb => ?_, fun t ty base n c olds ht hg h63 hcap hby ho1 ho2 ho3 => ?_⟩
  · have hf0 : (Builtin.firstCells inf.size m x).run P w = .ok us.toArray w := hf w.drawn
    simp [Builtin.append_, run_underlying ht, run_underlying hu, sizeOf, typeInfo, hi, hlen, hfit]
    rw [hf0]
    cases base with
    | none => rfl
    | some a => simp
  · have hn : ¬ (n + m ≤ c) := by omega
    have h63' : ¬ (9223372036854775807 < ((n : Int) + (m : Int))) := by omega
    have h48' : ¬ (281474976710656 < Builtin.nextslicecap (n + m) c * inf.bytes) := by omega
    have hf1 := hf (w.drawn + 1)
    have hfo := firstCells_old (P := P) (inf := inf) (base := base) (n := n) (c := c) w.drew ho1 (by simpa using ho2) ho3
    simp only [World.drew_eq] at hf1
    simp [Builtin.append_, run_underlying ht, run_underlying hu, sizeOf, typeInfo, zeroValue, hi, hz, hlen, hn, h63', h48', Question.forced, hf1, hfo, newRow, grownCap]
    congr 2
    apply Array.ext'
    simp
theorem zeroCells_zrep (z : Array Value) (m : Nat) (h : z.size ≠ 0 ∨ m = 0) : Builtin.zeroCells z m = (zrep m z.toList).toArray := by
  apply Array.ext'
  unfold Builtin.zeroCells
  simpa using zrange m z h
theorem tail_zeros {t2 : Nat} {k2 kx : IntKind} {inf : TypeInfo} {elem : Nat} {z : Value} {m : Nat} {new : List Value} (hu : P.underlying t2 = some (.int k2)) (hi : P.info? elem = some inf) (hz : inf.zero = some z)
    (hv : VRL ρ new (zrep m z.cells.toList)) (hs : z.cells.size = inf.size) (h1 : 1 ≤ inf.size) (hm : m ≤ 1048576) (hb : inf.bytes ≤ 65536) :
    TailRun P ρ w t2 inf elem z (.int kx (m : Int)) m new (zrep m z.cells.toList) := by
  have hw : IntKind.i64.wrap (m : Int) = (m : Int) := IntWalk.i64_in _ (by omega)
  have c1 : ¬ ((m : Int) < 0) := by omega
  have c2 : ¬ (281474976710656 < (m : Int) * (inf.bytes : Int)) := by
    have : m * inf.bytes ≤ 1048576 * 65536 := Nat.mul_le_mul hm hb
    have : ((m * inf.bytes : Nat) : Int) ≤ ((1048576 * 65536 : Nat) : Int) := Int.ofNat_le.2 this
    rw [Int.natCast_mul] at this
    omega
  refine ⟨hv, by rw [hv.length, zrep_len]; simp [hs], fun t ty base n c ht hfit hb => ?_, fun t ty base n c olds ht hg h63 hcap hby ho1 ho2 ho3 => ?_⟩
  · by_cases h0 : m * inf.size = 0
    · have hm0 : m = 0 := by rcases Nat.mul_eq_zero.1 h0 with h | h; exact h; omega
      subst hm0
      have hfit' : n ≤ c := by omega
      cases base with
      | none => simp [Builtin.append_, run_underlying ht, run_underlying hu, sizeOf, typeInfo, hi, hfit', asInt, asIntOf, IntWalk.i64_in 0 (by omega)]
      | some a => simp [Builtin.append_, run_underlying ht, run_underlying hu, sizeOf, typeInfo, hi, hfit', asInt, asIntOf, IntWalk.i64_in 0 (by omega), zrep]
    · have hz0 := zeroCells_zrep z.cells m (.inl (by omega))
      cases base with
      | none => simp [Builtin.append_, run_underlying ht, run_underlying hu, sizeOf, typeInfo, zeroValue, hi, hz, hfit, asInt, asIntOf, hw, c1, c2, hz0]
      | some a => simp [Builtin.append_, run_underlying ht, run_underlying hu, sizeOf, typeInfo, zeroValue, hi, hz, hfit, asInt, asIntOf, hw, c1, c2, h0, hz0]
  · have hn : ¬ (n + m ≤ c) := by omega
    have h63' : ¬ (9223372036854775807 < ((n : Int) + (m : Int))) := by omega
    have h48' : ¬ (281474976710656 < Builtin.nextslicecap (n + m) c * inf.bytes) := by omega
    have hfo := firstCells_old (P := P) (inf := inf) (base := base) (n := n) (c := c) w.drew ho1 (by simpa using ho2) ho3
    by_cases h0 : m * inf.size = 0
    · have hm0 : m = 0 := by rcases Nat.mul_eq_zero.1 h0 with h | h; exact h; omega
      subst hm0
      simp only [Nat.add_zero, Int.natCast_zero, Int.add_zero] at *
      simp [Builtin.append_, run_underlying ht, run_underlying hu, sizeOf, typeInfo, zeroValue, hi, hz, hn, h63', h48', Question.forced, hfo, newRow, grownCap, asInt, asIntOf, IntWalk.i64_in 0 (by omega), zrep]
    · have hz0 := zeroCells_zrep z.cells m (.inl (by omega))
      simp [Builtin.append_, run_underlying ht, run_underlying hu, sizeOf, typeInfo, zeroValue, hi, hz, hn, h63', h48', Question.forced, hfo, newRow, grownCap, asInt, asIntOf, hw, c1, c2, h0, hz0]
      congr 2
      apply Array.ext'
      simp
theorem tail_string {t2 : Nat} {inf : TypeInfo} {elem : Nat} {z : Value} {s : ByteArray} (hu : P.underlying t2 = some .string) (hi : P.info? elem = some inf) (hz : inf.zero = some z) (hs : inf.size = 1) :
    TailRun P ρ w t2 inf elem z (.string s) s.size (bytesV s.data.toList) (bytesV s.data.toList) := by
  have hbv : ∀ l : List UInt8, flats (bytesV l) = true := fun l => by induction l with | nil => rfl | cons b l ih => simp [bytesV, flats, byteV, flat, ih]
  have hlen : (bytesV s.data.toList).length = s.size := by rw [bytesV_eq]; simp
  have hfirst : ∀ w, (Builtin.firstCells inf.size s.size (.string s)).run P w = .ok (bytesV s.data.toList).toArray w := fun w => by
    have : s.extract 0 s.size = s := by
      apply ByteArray.ext
      simp
    simp only [Builtin.firstCells, this, Sem.run_pure, bytesV_eq]
    congr 1
    apply Array.ext'
    simp [byteV]
  refine ⟨flats.vr (hbv _), by rw [hs]; omega, fun t ty base n c ht hfit hb => ?_, fun t ty base n c olds ht hg h63 hcap hby ho1 ho2 ho3 => ?_⟩
  · cases base with
    | none => simp [Builtin.append_, run_underlying ht, run_underlying hu, sizeOf, typeInfo, hi, Builtin.lenOf, hfit, hfirst]
    | some a => simp [Builtin.append_, run_underlying ht, run_underlying hu, sizeOf, typeInfo, hi, Builtin.lenOf, hfit, hfirst]
  · have hn : ¬ (n + s.size ≤ c) := by omega
    have h63' : ¬ (9223372036854775807 < ((n : Int) + (s.size : Int))) := by omega
    have h48' : ¬ (281474976710656 < Builtin.nextslicecap (n + s.size) c * inf.bytes) := by omega
    have hfo := firstCells_old (P := P) (inf := inf) (base := base) (n := n) (c := c) w.drew ho1 (by simpa using ho2) ho3
    simp [Builtin.append_, run_underlying ht, run_underlying hu, sizeOf, typeInfo, zeroValue, hi, hz, Builtin.lenOf, hn, h63', h48', Question.forced, hfirst, hfo, newRow, grownCap]
    congr 2
    apply Array.ext'
    simp
def appendA (E : Nat → Option TI) (get : Nat → Option AObj) (t t2 : Nat) (s x : Value) (nid : Nat) : Option (Value × HE) :=
  match E t, tailOf E t2 with
  | some { k := .sl e, .. }, some k => (match E e with
    | some i => (match tailCells get i k x with
      | some (m, new) =>
        bif ones new && Nat.ble 1 i.size && Nat.ble 1 i.bytes && Nat.ble i.bytes 65536 && !single e then
          match s with
          | .slice none 0 0 => bif Nat.beq m 0 then some (s, .keep) else bif Nat.ble m 1048576 then some (.slice (some ⟨nid, 0, none⟩) m (U + i.size), .new (.cells new false e)) else none
          | .slice (some a) n c =>
            bif Nat.beq m 0 then some (s, .keep) else
            bif Nat.ble (n + m) 1048576 then
              bif unk c then
                bif Nat.beq c (U + i.size) then
                  match ldN get a (n * i.size), get a.block with
                  | some old, some (.cells _ false el) => bif Nat.beq el e then some (.slice (some ⟨nid, 0, none⟩) (n + m) c, .take a.block (.cells (old ++ new) false e)) else none
                  | _, _ => none
                else none
              else
                bif Nat.ble (n + m) c then
                  match a.spot, get a.block with
                  | none, some (.cells cs false el) => (match repl cs (a.off + n * i.size) new with | some cs' => some (.slice (some a) (n + m) c, .put a.block (.cells cs' false el)) | none => none)
                  | _, _ => none
                else
                  match ldN get a (n * i.size) with
                  | some old => some (.slice (some ⟨nid, 0, none⟩) (n + m) (U + i.size), .new (.cells (old ++ new) false e))
                  | none => none
            else none
          | _ => none
        else none
      | none => none)
    | none => none)
  | _, _ => none
theorem tailOf_run (hE : EnvOK P E) (H : HR P ρ h w) {t2 e : Nat} {k : Tail} {i : TI} {d : TypeDesc} {inf : TypeInfo} {z : Value} {x cx : Value} {m : Nat} {new : List Value} (ht : tailOf E t2 = some k) (hti : IsTI P e i d inf z)
    (hx : VR ρ x cx) (htc : tailCells h.get i k x = some (m, new)) (h1 : 1 ≤ i.size) (hb : i.bytes ≤ 65536) : ∃ us, TailRun P ρ w t2 inf e z cx m new us := by
  have hsz : i.size = inf.size := hti.size
  unfold tailOf at ht
  split at ht
  · rename_i e2 _ _ _ _ hi2
    cases ht
    obtain ⟨d2, inf2, z2, hti2⟩ := tiOf_spec (hE _ _ hi2)
    have hu : P.underlying t2 = some (.slice e2) := by rw [hti2.und, kOf_sl hti2.k]
    simp only [tailCells] at htc
    split at htc
    all_goals first
      | (rename_i heq; cases heq; done)
      | (rename_i heq _; cases heq; done)
      | skip
    · cases htc
      have : cx = .slice none 0 0 := hx
      subst this
      exact ⟨[], tail_slice hu hti.info hti.zero rfl (by simp) (fun _ => rfl) (fun _ => rfl)⟩
    · rename_i b m' c _
      obtain ⟨l, g1, g2, hsr⟩ := hx
      obtain ⟨a', k', rfl⟩ := hsr.inv
      split at htc
      · rename_i cs hl
        cases htc
        obtain ⟨l2, q1, us, q2, q3, q4⟩ := ldN_sound H hl
        rw [g1] at q1; cases q1
        refine ⟨us, tail_slice hu hti.info hti.zero q2 (by rw [q2.length, q3, hsz]) (fun _ => rfl) (fun n => ?_)⟩
        by_cases hm0 : m = 0
        · subst hm0
          have : us = [] := List.eq_nil_of_length_eq_zero (by simpa using q3)
          subst this
          simp [Builtin.firstCells, loadCells, loadCellsFrom]
        · rcases hsr with ⟨k2, e1, _⟩ | ⟨e1, _⟩
          · cases e1
            have := run_loadCells_list (P := P) { w with drawn := n } ⟨l.blk, l.off + b.off, none⟩ us (fun j v hj => q4 j v hj)
            rw [q3, hsz] at this
            exact this
          · exact absurd e1 hm0
      · rename_i hl
        cases hm : Nat.beq m' 0 with
        | false => rw [hm] at htc; cases htc
        | true =>
          rw [hm] at htc; cases htc
          have hm' := Nat.eq_of_beq_eq_true hm
          subst hm'
          exact ⟨[], tail_slice hu hti.info hti.zero rfl (by simp) (fun _ => rfl) (fun n => by simp [Builtin.firstCells, loadCells, loadCellsFrom])⟩
    · cases htc
  · rename_i _ _ _ _ hi2
    cases ht
    obtain ⟨d2, inf2, z2, hti2⟩ := tiOf_spec (hE _ _ hi2)
    have hu : P.underlying t2 = some .string := by rw [hti2.und, kOf_str hti2.k]
    simp only [tailCells] at htc
    split at htc
    all_goals first
      | (rename_i heq; cases heq; done)
      | (rename_i heq _; cases heq; done)
      | skip
    · rw [VR.string hx]
      cases hm : Nat.beq i.size 1 with
      | false => rw [hm] at htc; cases htc
      | true =>
        rw [hm] at htc; cases htc
        exact ⟨_, tail_string hu hti.info hti.zero (by have := Nat.eq_of_beq_eq_true hm; omega)⟩
    · cases htc
  · rename_i k0 _ _ _ _ hi2
    cases ht
    obtain ⟨d2, inf2, z2, hti2⟩ := tiOf_spec (hE _ _ hi2)
    have hu : P.underlying t2 = some (.int k0) := by rw [hti2.und, kOf_int hti2.k]
    simp only [tailCells] at htc
    split at htc
    all_goals first
      | (rename_i heq; cases heq; done)
      | (rename_i heq _; cases heq; done)
      | skip
    · rename_i kx n _
      rw [VR.int hx]
      cases hm : Nat.ble n 1048576 with
      | false => rw [hm] at htc; cases htc
      | true =>
        rw [hm] at htc; cases htc
        have hzs : z.cells.size = inf.size := by
          have h3 := hti.len
          rw [hti.zc] at h3
          simpa [hsz] using h3
        have hzl : VRL ρ i.zero z.cells.toList := by rw [← hti.zc]; exact flats.vr hti.fl
        exact ⟨_, tail_zeros hu hti.info hti.zero (zrep_vr hzl _) hzs (by omega) (Nat.le_of_ble_eq_true hm) (by rw [← hti.bytes]; exact hb)⟩
    · cases htc
  · cases ht
theorem U_add (s : Nat) : U + s - U = s := by omega
theorem ones_append : ∀ {a b : List Value}, ones a = true → ones b = true → ones (a ++ b) = true
  | [], _, _, h => h
  | x :: a, b, h, k => by
    unfold ones at h
    cases hx : one x with
    | false => rw [hx] at h; cases h
    | true => rw [hx] at h; simp only [List.cons_append, ones, hx, cond_true]; exact ones_append h k
/-- a slice handed back where nothing is appended -/
theorem appendA_none {t t2 e ty : Nat} {inf : TypeInfo} {z x : Value} {base : Option Addr} {n c : Nat} {new us : List Value} (T : TailRun P ρ w t2 inf e z x 0 new us) (hu : P.underlying t = some (.slice e)) (hb : ∀ b, base = some b → b.spot = none) (hn : n ≤ c) :
    (Builtin.append_ #[t, t2] ty #[.slice base n c, x]).run P w = .ok (.slice base n c) w := by
  have hus : us = [] := by
    have h1 := T.vr.length
    have h2 := T.len
    apply List.eq_nil_of_length_eq_zero
    rw [← h1, h2]; simp
  rw [T.fit t ty base n c hu (by omega) hb, hus]
  cases base <;> simp [storeCells]
/-- the new row of a growing append -/
theorem grown_obj (H : HR P ρ h w) {nid : Nat} (hn : h.get nid = none) {B : Nat} (hB : B ≤ nid) {old olds new us : List Value} (h1 : VRL ρ old olds) (h2 : VRL ρ new us) {n m sz c el : Nat} (l1 : old.length = n * sz) (l2 : new.length = m * sz) {z : Array Value} (hz : z.size = sz) (hnm : n + m ≤ 1048576) :
    ∃ ρ', VR ρ' (.slice (some ⟨nid, 0, none⟩) (n + m) (U + sz)) (.slice (some ⟨w.heap.size, 0, none⟩) (n + m) (grownCap w (n + m) c el)) ∧
      HR P ρ' (h.new nid (.cells (old ++ new) false el)) (w.drew.alloc (.cells (olds.toArray ++ us.toArray ++ Builtin.zeroCells z (grownCap w (n + m) c el - (n + m))) el)) ∧
      Fr B ρ h w ρ' (h.new nid (.cells (old ++ new) false el)) (w.drew.alloc (.cells (olds.toArray ++ us.toArray ++ Builtin.zeroCells z (grownCap w (n + m) c el - (n + m))) el)) := by
  have hge := grownCap_ge w (n + m) c el
  have hltU : grownCap w (n + m) c el < U := by
    have := Nat.mod_lt (w.tape w.drawn (.appendCap (n + m) c el)) (show 0 < 2 ^ 63 - (n + m) by omega)
    show n + m + w.tape w.drawn (.appendCap (n + m) c el) % (2 ^ 63 - (n + m)) < U
    unfold U
    omega
  generalize grownCap w (n + m) c el = cap at *
  have hnew := new_cells (w := w.drew) (H.draw (w.drawn + 1)) hn hB (h1.append h2) el (Builtin.zeroCells z (cap - (n + m))).toList
  have harr : ((olds ++ us) ++ (Builtin.zeroCells z (cap - (n + m))).toList).toArray = olds.toArray ++ us.toArray ++ Builtin.zeroCells z (cap - (n + m)) := by
    apply Array.ext'
    simp
  rw [harr] at hnew
  refine ⟨_, ?_, hnew.1, (Fr.draw B ρ h w (w.drawn + 1)).trans hnew.2 (Nat.le_refl _)⟩
  refine ⟨_, by simp [Ren.put]; rfl, rfl, .inl ⟨cap, by simp, hge, fun _ => ?_, fun hU => by omega⟩⟩
  have e1 := h1.length
  have e2 := h2.length
  simp only [U_add, size_zeroCells, hz, Nat.zero_add]
  rw [← e1, ← e2, l1, l2, ← Nat.add_mul, ← Nat.add_mul]
  exact ⟨Nat.mul_le_mul_right _ (by omega), hltU⟩
theorem appendA_sound (hE : EnvOK P E) (H : HR P ρ h w) {t t2 ty nid : Nat} {s x cs cx r : Value} {e : HE} (hs : VR ρ s cs) (hx : VR ρ x cx) (hr : appendA E h.get t t2 s x nid = some (r, e)) (hn : h.get nid = none) {B : Nat} (hB : B ≤ nid) :
    ∃ ρ' u w', (Builtin.append_ #[t, t2] ty #[cs, cx]).run P w = .ok u w' ∧ VR ρ' r u ∧ HR P ρ' (e.app nid h) w' ∧ Fr B ρ h w ρ' (e.app nid h) w' := by
  unfold appendA at hr
  split at hr
  · rename_i el s0 b0 z0 q0 k hi0 htl
    obtain ⟨d, inf0, z00, hti0⟩ := tiOf_spec (hE _ _ hi0)
    have hu : P.underlying t = some (.slice el) := by rw [hti0.und, kOf_sl hti0.k]
    split at hr
    · rename_i i hie
      obtain ⟨d1, inf, z, hti⟩ := tiOf_spec (hE _ _ hie)
      split at hr
      · rename_i m new htc
        cases hc : (ones new && Nat.ble 1 i.size && Nat.ble 1 i.bytes && Nat.ble i.bytes 65536 && !single el) with
        | false => rw [hc] at hr; cases hr
        | true =>
          rw [hc] at hr
          simp only [cond_true] at hr
          simp only [Bool.and_eq_true, Nat.ble_eq] at hc
          obtain ⟨⟨⟨⟨c1, c2⟩, c3⟩, c4⟩, c5⟩ := hc
          obtain ⟨us, T⟩ := tailOf_run hE H htl hti hx htc c2 c4
          have hsz : i.size = inf.size := hti.size
          have hby : i.bytes = inf.bytes := hti.bytes
          have hcap : ∀ n c, c < n → n ≤ 1048576 → Builtin.nextslicecap n c * inf.bytes ≤ 281474976710656 := fun n c h1 h2 => by
            refine growslice_fits h1 ?_
            have : n * inf.bytes ≤ 1048576 * 65536 := Nat.mul_le_mul h2 (by omega)
            omega
          have hzs : z.cells.size = i.size := by
            have h3 := hti.len
            rw [hti.zc] at h3
            simpa using h3
          split at hr
          · have : cs = .slice none 0 0 := hs
            subst this
            cases hm : Nat.beq m 0 with
            | true =>
              rw [hm] at hr; cases hr
              cases Nat.eq_of_beq_eq_true hm
              exact ⟨ρ, _, w, appendA_none T hu (fun _ h => by cases h) (Nat.le_refl _), rfl, H, Fr.refl _ _ _ _⟩
            | false =>
              rw [hm] at hr
              simp only [cond_false] at hr
              cases hm2 : Nat.ble m 1048576 with
              | false => rw [hm2] at hr; cases hr
              | true =>
                rw [hm2] at hr; cases hr
                have hm0 := Nat.ne_of_beq_eq_false hm
                have hm3 := Nat.le_of_ble_eq_true hm2
                have hg := T.grow t ty none 0 0 [] hu (by omega) (by omega) (by rw [Nat.zero_add]; exact hcap m 0 (by omega) hm3) (by omega) (by simp) (fun b hb => by cases hb) (fun _ => rfl)
                simp only [Nat.zero_add] at hg
                obtain ⟨ρ', g1, g2, g3⟩ := grown_obj H hn hB (VRL.nil (ρ := ρ)) T.vr (n := 0) (m := m) (sz := i.size) (c := 0) (el := el) (by simp) (by rw [T.len, hsz]) hzs (by omega)
                simp only [Nat.zero_add, List.nil_append] at g1 g2 g3
                exact ⟨ρ', _, _, hg, g1, g2, g3⟩
          · rename_i a n c
            obtain ⟨l, hl1, hl2, hsr⟩ := hs
            cases hm : Nat.beq m 0 with
            | true =>
              rw [hm] at hr; cases hr
              cases Nat.eq_of_beq_eq_true hm
              rcases hsr with ⟨k', rfl, q1, q2, q3⟩ | ⟨q1, q2, o', rfl⟩
              · exact ⟨ρ, _, w, appendA_none T hu (fun b hb => by cases hb; rfl) q1, ⟨l, hl1, hl2, .inl ⟨k', rfl, q1, q2, q3⟩⟩, H, Fr.refl _ _ _ _⟩
              · exact ⟨ρ, _, w, appendA_none T hu (fun b hb => by cases hb; rfl) (Nat.le_refl _), ⟨l, hl1, hl2, .inr ⟨q1, q2, o', rfl⟩⟩, H, Fr.refl _ _ _ _⟩
            | false =>
              rw [hm] at hr
              simp only [cond_false] at hr
              have hm0 := Nat.ne_of_beq_eq_false hm
              cases hm2 : Nat.ble (n + m) 1048576 with
              | false => rw [hm2] at hr; cases hr
              | true =>
                rw [hm2] at hr
                simp only [cond_true] at hr
                have hm3 := Nat.le_of_ble_eq_true hm2
                cases huk : unk c with
                | true =>
                  rw [huk] at hr
                  simp only [cond_true] at hr
                  cases hcs : Nat.beq c (U + i.size) with
                  | false => rw [hcs] at hr; cases hr
                  | true =>
                    rw [hcs] at hr
                    simp only [cond_true] at hr
                    cases Nat.eq_of_beq_eq_true hcs
                    split at hr
                    · rename_i old cso elo hld hget
                      cases hel : Nat.beq elo el with
                      | false => rw [hel] at hr; cases hr
                      | true =>
                      rw [hel] at hr; cases hr
                      cases Nat.eq_of_beq_eq_true hel
                      obtain ⟨lq, j1, olds, j2, j3, j4⟩ := ldN_sound H hld
                      rw [hl1] at j1; cases j1
                      have hne : nid ≠ a.block := fun e => by rw [e, hget] at hn; cases hn
                      have hnk : (h.set a.block .dead).get nid = none := by simp [hne, hn]
                      have hlold := (ldN_spec hld).2.1
                      have hgrow : ∀ (b : Addr) (c' : Nat), c' < n + m → (∀ j v, olds[j]? = some v → w.cell? (b.add j) = some v) →
                          ∃ ρ' u w', (Builtin.append_ #[t, t2] ty #[.slice (some b) n c', cx]).run P w = .ok u w' ∧ VR ρ' (.slice (some ⟨nid, 0, none⟩) (n + m) (U + i.size)) u ∧ HR P ρ' ((h.set a.block .dead).new nid (.cells (old ++ new) false el)) w' ∧ Fr B ρ h w ρ' ((h.set a.block .dead).new nid (.cells (old ++ new) false el)) w' := by
                        intro b c' hlt hcell
                        have hg := T.grow t ty (some b) n c' olds hu hlt (by omega) (hcap _ _ hlt hm3) (by omega) (by rw [j3, hsz]) (fun b' hb' => by cases hb'; exact hcell) (fun hb => by cases hb)
                        obtain ⟨ρ', g1, g2, g3⟩ := grown_obj (H.kill hget) hnk hB j2 T.vr (n := n) (m := m) (sz := i.size) (c := c') (el := el) hlold (by rw [T.len, hsz]) hzs hm3
                        exact ⟨ρ', _, _, hg, g1, g2, (Fr.kill (B := B) hget).trans g3 (Nat.le_refl _)⟩
                      rcases hsr with ⟨k', rfl, q1, q2, q3⟩ | ⟨q1, q2, o', rfl⟩
                      · by_cases hfit : n + m ≤ k'
                        · -- there is room: the block is taken over
                          obtain ⟨l2, cc, fr, p1, p2, p3, p4, p5, p6⟩ := H.cells hget
                          rw [hl1] at p1; cases p1
                          have hroom := (q2 (by omega)).1
                          have hcapU := (q2 (by omega)).2
                          rw [U_add] at hroom
                          have hmul : (n + m) * i.size ≤ k' * i.size := Nat.mul_le_mul_right _ hfit
                          rw [Nat.add_mul] at hmul
                          have hul : us.length = m * i.size := by rw [← T.vr.length, T.len, hsz]
                          obtain ⟨cc', k1, k2, k3, k4, k5, k6, k7, k8⟩ := heap_setCells l.blk us (l.off + a.off + n * i.size) w cc _ fr p2 (by omega)
                          have hrun := run_storeCells_cells (P := P) l.blk (l.off + a.off + n * i.size) us 0 w (fun j hj => by
                              rw [sub_cell p2]
                              simp only [Nat.add_zero]
                              have : l.off + a.off + n * i.size + j < cc.size := by omega
                              simp [this])
                            (fun j hj => sub_frozen p2 _ ((p5 rfl).2 _ (by omega))) (ones_vr T.vr c1)
                          simp only [Nat.add_zero] at hrun
                          have hf := T.fit t ty (some ⟨l.blk, l.off + a.off, none⟩) n k' hu hfit (fun b hb => by cases hb; rfl)
                          rw [← hsz] at hf
                          simp only [add_mk, hrun, Result.andThen_ok] at hf
                          refine ⟨_, _, _, hf, ?_, H.take (l' := ⟨l.blk, l.off + a.off, l.room - a.off⟩) hget rfl hl1 hn rfl _ k4 k5 ?_, Fr.take (l' := ⟨l.blk, l.off + a.off, l.room - a.off⟩) H hget rfl hl1 hn hB rfl _ k6 k7 k8 k4 k5⟩
                          · refine ⟨⟨l.blk, l.off + a.off, l.room - a.off⟩, by simp [Ren.put], rfl, .inl ⟨k', by simp, hfit, fun _ => ?_, fun hU => by omega⟩⟩
                            simp only [U_add]
                            exact ⟨by omega, hcapU⟩
                          · refine ⟨cc', fr, k1, ?_, ?_, fun _ => ⟨fun hsg => (by rw [hsg] at c5; cases c5), fun j hj => (p5 rfl).2 j (by omega)⟩, fun j v hj => ?_⟩
                            · simp only [List.length_append, hlold, T.len, ← hsz]; omega
                            · show l.off + a.off + (l.room - a.off) ≤ cc'.size
                              omega
                            · show ∃ v', cc'[l.off + a.off + j]? = some v' ∧ VR ρ v v'
                              rw [k3]
                              by_cases hjn : j < n * i.size
                              · rw [List.getElem?_append_left (by omega)] at hj
                                rw [if_neg (by omega)]
                                obtain ⟨u, hu1, hu2⟩ := j2.get j v hj
                                have hcell := j4 j u hu1
                                rw [add_mk, sub_cell p2] at hcell
                                exact ⟨u, hcell, hu2⟩
                              · rw [List.getElem?_append_right (by omega), hlold] at hj
                                have hlt : j - n * i.size < new.length := (List.getElem?_eq_some_iff.1 hj).1
                                rw [T.len, ← hsz] at hlt
                                rw [if_pos (by omega), show l.off + a.off + j - (l.off + a.off + n * i.size) = j - n * i.size by omega]
                                exact T.vr.get _ _ hj
                        · exact hgrow _ k' (by omega) j4
                      · have : olds = [] := by
                          apply List.eq_nil_of_length_eq_zero
                          rw [j3, q1]; simp
                        subst this
                        have := hgrow ⟨l.blk, o', none⟩ 0 (by omega) (fun j v hj => by simp at hj)
                        rw [q1] at this ⊢
                        exact this
                    · cases hr
                | false =>
                  rw [huk] at hr
                  simp only [cond_false] at hr
                  obtain ⟨q1, o', rfl, q2⟩ := hsr.known huk
                  cases hfit : Nat.ble (n + m) c with
                  | true =>
                    rw [hfit] at hr
                    simp only [cond_true] at hr
                    have hfit' := Nat.le_of_ble_eq_true hfit
                    have ho : o' = l.off + a.off := by rcases q2 with h | h <;> omega
                    subst ho
                    split at hr
                    · rename_i css els hsp hget
                      split at hr
                      · rename_i cs' hrep
                        cases hr
                        have hf := T.fit t ty (some ⟨l.blk, l.off + a.off, none⟩) n c hu hfit' (fun b hb => by cases hb; rfl)
                        obtain ⟨w', e1, e2, e3⟩ := put_cells (a := addO (n * i.size) a) H hget hl1 hrep T.vr c1 B
                        rw [← hsz] at hf
                        simp only [addO, ← Nat.add_assoc] at e1 e2 e3
                        simp only [add_mk, e1, Result.andThen_ok] at hf
                        exact ⟨ρ, _, w', hf, ⟨l, hl1, hl2, .inl ⟨c, rfl, hfit', fun hU => by have := unk_lt huk; omega, fun _ => rfl⟩⟩, e2, e3⟩
                      · cases hr
                    · cases hr
                  | false =>
                    rw [hfit] at hr
                    simp only [cond_false] at hr
                    have hlt : c < n + m := Nat.lt_of_not_le fun hle => by rw [Nat.ble_eq_true_of_le hle] at hfit; cases hfit
                    split at hr
                    · rename_i old hld
                      cases hr
                      obtain ⟨lq, j1, olds, j2, j3, j4⟩ := ldN_sound H hld
                      rw [hl1] at j1; cases j1
                      have hlold := (ldN_spec hld).2.1
                      have hcell : ∀ j v, olds[j]? = some v → w.cell? ((⟨l.blk, o', none⟩ : Addr).add j) = some v := by
                        rcases q2 with rfl | ⟨h0, _⟩
                        · exact j4
                        · intro j v hj
                          have : olds = [] := by
                            apply List.eq_nil_of_length_eq_zero
                            rw [j3, h0]; simp
                          subst this
                          simp at hj
                      have hg := T.grow t ty (some ⟨l.blk, o', none⟩) n c olds hu hlt (by omega) (hcap _ _ hlt hm3) (by omega) (by rw [j3, hsz]) (fun b' hb' => by cases hb'; exact hcell) (fun hb => by cases hb)
                      obtain ⟨ρ', g1, g2, g3⟩ := grown_obj H hn hB j2 T.vr (n := n) (m := m) (sz := i.size) (c := c) (el := el) hlold (by rw [T.len, hsz]) hzs hm3
                      exact ⟨ρ', _, _, hg, g1, g2, g3⟩
                    · cases hr
          · cases hr
      · cases hr
    · cases hr
  · cases hr
end
end Go.Ab
