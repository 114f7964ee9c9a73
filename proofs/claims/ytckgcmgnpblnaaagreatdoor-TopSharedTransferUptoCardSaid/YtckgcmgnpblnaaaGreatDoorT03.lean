/- A part of the proof of a law over a given program: Pure3, Pure4, Pure5. -/
import Derived.Test.YtckgcmgnpblnaaaGreatDoorT02
set_option linter.unusedVariables false
set_option linter.unusedSimpArgs false
/- Operations on values: conversions, slices' bounds, fields, indices, building. -/
namespace Go.Ab
open Go.RowKit
section
variable {P : Program} {ρ : Ren} {h : Hp} {w : World} {E : Nat → Option TI}
def unA (op : UnOp) (x : Value) : Option Value :=
  match op, x with
  | .not, .bool b => some (.bool (!b))
  | .neg, .int k n => some (.int k (k.wrap (0 - n)))
  | _, _ => none
theorem unA_sound {op : UnOp} {x c r : Value} (hx : VR ρ x c) (hr : unA op x = some r) : (Op.unary op c).run P w = .ok r w ∧ VR ρ r r := by
  unfold unA at hr
  split at hr
  · cases hr; rw [VR.bool hx]; exact ⟨rfl, rfl⟩
  · cases hr; rw [VR.int hx]; exact ⟨rfl, rfl⟩
  · cases hr
def convA (E : Nat → Option TI) (s d : Nat) (x : Value) : Option Value :=
  match E s, E d, x with
  | some _, some { k := .int k, .. }, .int _ n => some (.int k (k.wrap n))
  | some _, some { k := .str, .. }, .string b => some (.string b)
  | _, _, _ => none
theorem convA_sound (hE : EnvOK P E) {s d : Nat} {x c r : Value} (hx : VR ρ x c) (hr : convA E s d x = some r) : (convert s d c).run P w = .ok r w ∧ VR ρ r r := by
  unfold convA at hr
  split at hr
  · rename_i is k0 s0 b0 z0 e0 k n hs hd
    cases hr
    obtain ⟨d1, inf1, z1, h1⟩ := tiOf_spec (hE _ _ hs)
    obtain ⟨d2, inf2, z2, h2⟩ := tiOf_spec (hE _ _ hd)
    rw [VR.int hx]
    refine ⟨?_, rfl⟩
    simp only [convert, Sem.run_bind, run_underlying h1.und, run_underlying h2.und, kOf_int h2.k, Result.andThen_ok]
    rfl
  · rename_i is s0 b0 z0 e0 b hs hd
    cases hr
    obtain ⟨d1, inf1, z1, h1⟩ := tiOf_spec (hE _ _ hs)
    obtain ⟨d2, inf2, z2, h2⟩ := tiOf_spec (hE _ _ hd)
    rw [VR.string hx]
    refine ⟨?_, rfl⟩
    simp only [convert, Sem.run_bind, run_underlying h1.und, run_underlying h2.und, kOf_str h2.k, Result.andThen_ok, Sem.run_pure]
  · cases hr
def nilA (x : Value) : Option Value :=
  match x with
  | .pointer (some a) => some (.pointer (some a))
  | .iface t v => some (.iface t v)
  | .func (.func f) a b => some (.func (.func f) a b)
  | _ => none
/-- an index, a bound -/
def natOf : Value → Option Nat
  | .int _ (.ofNat n) => some n
  | _ => none
theorem natOf_spec {v c : Value} {n : Nat} (hv : VR ρ v c) (hr : natOf v = some n) : ∃ k, c = .int k (n : Int) := by
  unfold natOf at hr
  split at hr
  · cases hr; exact ⟨_, VR.int hv⟩
  · cases hr
def bound (d : Nat) : Option Value → Option Nat
  | none => some d
  | some v => natOf v
/-- how the operands of a slice expression lie -/
def VRO (ρ : Ren) : Option Value → Option Value → Prop
  | none, c => c = none
  | some v, c => ∃ u, c = some u ∧ VR ρ v u
theorem sliceBound_run {k : IntKind} {n y : Nat} (code : BoundsCode) (hn : n ≤ y) : (Instr.sliceBound (.int k (n : Int)) y code).run P w = .ok n w := by
  have h1 : (0 : Int) ≤ (n : Int) ∧ (n : Int) ≤ (y : Int) := by omega
  simp [Instr.sliceBound, asIntOf, h1]
theorem sliceBounds_run {len cap l hh m : Nat} {lo hi mx clo chi cmx : Option Value} (isS : Bool) (h1 : VRO ρ lo clo) (h2 : VRO ρ hi chi) (h3 : VRO ρ mx cmx)
    (e3 : bound cap mx = some m) (e2 : bound len hi = some hh) (e1 : bound 0 lo = some l) (hm : m ≤ cap) (hhm : hh ≤ m) (hl : l ≤ hh) (hok : mx ≠ none → hi ≠ none) :
    (Instr.sliceBounds isS len cap clo chi cmx).run P w = .ok (l, hh, m) w := by
  cases mx with
  | none =>
    cases h3
    cases e3
    cases hi with
    | none =>
      cases h2
      cases e2
      cases lo with
      | none => cases h1; cases e1; rfl
      | some v =>
        obtain ⟨u, rfl, hu⟩ := h1
        obtain ⟨k, rfl⟩ := natOf_spec hu e1
        simp [Instr.sliceBounds, sliceBound_run (P := P) (w := w) _ hl]
    | some v2 =>
      obtain ⟨u2, rfl, hu2⟩ := h2
      obtain ⟨k2, rfl⟩ := natOf_spec hu2 e2
      cases lo with
      | none => cases h1; cases e1; simp [Instr.sliceBounds, sliceBound_run (P := P) (w := w) _ hhm]
      | some v =>
        obtain ⟨u, rfl, hu⟩ := h1
        obtain ⟨k, rfl⟩ := natOf_spec hu e1
        simp [Instr.sliceBounds, sliceBound_run (P := P) (w := w) _ hl, sliceBound_run (P := P) (w := w) _ hhm]
  | some v3 =>
    obtain ⟨u3, rfl, hu3⟩ := h3
    obtain ⟨k3, rfl⟩ := natOf_spec hu3 e3
    cases hi with
    | none => exact absurd rfl (hok (by simp))
    | some v2 =>
      obtain ⟨u2, rfl, hu2⟩ := h2
      obtain ⟨k2, rfl⟩ := natOf_spec hu2 e2
      cases lo with
      | none => cases h1; cases e1; simp [Instr.sliceBounds, sliceBound_run (P := P) (w := w) _ hhm, sliceBound_run (P := P) (w := w) _ hm]
      | some v =>
        obtain ⟨u, rfl, hu⟩ := h1
        obtain ⟨k, rfl⟩ := natOf_spec hu e1
        simp [Instr.sliceBounds, sliceBound_run (P := P) (w := w) _ hl, sliceBound_run (P := P) (w := w) _ hhm, sliceBound_run (P := P) (w := w) _ hm]
/-- is the capacity not known? -/
def unk (c : Nat) : Bool := Nat.ble U c
def addO (n : Nat) (a : Addr) : Addr := ⟨a.block, a.off + n, none⟩
def sliceA (E : Nat → Option TI) (t : Nat) (x : Value) (lo hi mx : Option Value) : Option Value :=
  match E t, x with
  | some { k := .str, .. }, .string s =>
    match mx, bound 0 lo, bound s.size hi with
    | none, some l, some hh => bif Nat.ble l hh && Nat.ble hh s.size then some (.string (s.extract l hh)) else none
    | _, _, _ => none
  | some { k := .sl e, .. }, .slice none 0 0 =>
    match E e, bound 0 lo, bound 0 hi, mx with
    | some _, some 0, some 0, none => some (.slice none 0 0)
    | some _, some 0, some 0, some mv => (match hi, natOf mv with | some _, some 0 => some (.slice none 0 0) | _, _ => none)
    | _, _, _, _ => none
  | some { k := .sl e, .. }, .slice (some a) n c =>
    match E e, bound 0 lo, bound n hi, mx with
    | some { size := sz, .. }, some l, some hh, none =>
      bif unk c then
        bif Nat.ble l hh && Nat.ble hh n && Nat.beq c (U + sz) then some (.slice (some (addO (l * sz) a)) (hh - l) c) else none
      else
        bif Nat.ble l hh && Nat.ble hh c then some (.slice (some (bif Nat.beq c l then a else addO (l * sz) a)) (hh - l) (c - l)) else none
    | some { size := sz, .. }, some l, some hh, some mv =>
      match hi, natOf mv with
      | some _, some m => bif Nat.ble l hh && Nat.ble hh m && Nat.ble m (bif unk c then n else c) && !unk m then some (.slice (some (bif Nat.beq m l then a else addO (l * sz) a)) (hh - l) (m - l)) else none
      | _, _ => none
    | _, _, _, _ => none
  | some { k := .arr n e, .. }, .pointer (some a) =>
    match E e, bound 0 lo, bound n hi, mx with
    | some { size := sz, .. }, some l, some hh, none => bif Nat.ble l hh && Nat.ble hh n && !unk n then some (.slice (some (bif Nat.beq n l then a else addO (l * sz) a)) (hh - l) (n - l)) else none
    | _, _, _, _ => none
  | _, _ => none
theorem sliceAt_slice_run {t e sz : Nat} {i : TI} {d d2 : TypeDesc} {inf inf2 : TypeInfo} {z z2 : Value} {i2 : TI} (hti : IsTI P t i d inf z) (hd : d = .slice e) (hti2 : IsTI P e i2 d2 inf2 z2) (hsz : i2.size = sz)
    {a : Option Addr} {n c l hh m : Nat} {clo chi cmx : Option Value} (hb : (Instr.sliceBounds true n c clo chi cmx).run P w = .ok (l, hh, m) w) :
    (Instr.sliceAt t (.slice a n c) clo chi cmx).run P w = .ok (.slice (if m = l then a else a.map (·.add (l * sz))) (hh - l) (m - l)) w := by
  subst hd
  simp only [Instr.sliceAt, Sem.run_bind, run_underlying hti.und, Result.andThen_ok, Instr.slice, hb, sizeOf_run hti2, Sem.run_pure, hsz]
theorem sliceAt_arr_run {t e sz n : Nat} {i : TI} {d d2 : TypeDesc} {inf inf2 : TypeInfo} {z z2 : Value} {i2 : TI} (hti : IsTI P t i d inf z) (hd : d = .array n e) (hti2 : IsTI P e i2 d2 inf2 z2) (hsz : i2.size = sz)
    {a : Addr} {l hh m : Nat} {clo chi cmx : Option Value} (hb : (Instr.sliceBounds false n n clo chi cmx).run P w = .ok (l, hh, m) w) :
    (Instr.sliceAt t (.pointer (some a)) clo chi cmx).run P w = .ok (.slice (some (if m = l then a else a.add (l * sz))) (hh - l) (m - l)) w := by
  subst hd
  simp only [Instr.sliceAt, Sem.run_bind, run_underlying hti.und, Result.andThen_ok, Instr.sureAddr, hb, sizeOf_run hti2, Sem.run_pure, hsz]
theorem sliceAt_str_run {t : Nat} {i : TI} {d : TypeDesc} {inf : TypeInfo} {z : Value} (hti : IsTI P t i d inf z) (hd : d = .string)
    {s : ByteArray} {l hh m : Nat} {clo chi : Option Value} (hb : (Instr.sliceBounds false s.size s.size clo chi none).run P w = .ok (l, hh, m) w) :
    (Instr.sliceAt t (.string s) clo chi none).run P w = .ok (.string (s.extract l hh)) w := by
  subst hd
  simp only [Instr.sliceAt, Sem.run_bind, run_underlying hti.und, Result.andThen_ok, Instr.slice, hb, Sem.run_pure, Option.isSome_none, Bool.false_eq_true, if_false]
theorem unk_lt {k : Nat} (hk : unk k = false) : k < U := by
  unfold unk at hk
  exact Nat.lt_of_not_le fun h => by rw [Nat.ble_eq_true_of_le h] at hk; cases hk
theorem SR.known {l : Loc} {o n k : Nat} {c : Value} (h : SR l o n k c) (hk : unk k = false) : n ≤ k ∧ ∃ o', c = .slice (some ⟨l.blk, o', none⟩) n k ∧ (o' = l.off + o ∨ (n = 0 ∧ k = 0)) := by
  have hlt := unk_lt hk
  rcases h with ⟨k', rfl, h1, h2, h3⟩ | ⟨rfl, h2, o', rfl⟩
  · cases h3 hlt; exact ⟨h1, _, rfl, .inl rfl⟩
  · have : k = 0 := by omega
    subst this
    exact ⟨Nat.le_refl _, o', rfl, .inr ⟨rfl, rfl⟩⟩
theorem sliceA_sound (hE : EnvOK P E) {t : Nat} {x cx r : Value} {lo hi mx clo chi cmx : Option Value} (hx : VR ρ x cx) (h1 : VRO ρ lo clo) (h2 : VRO ρ hi chi) (h3 : VRO ρ mx cmx) (hr : sliceA E t x lo hi mx = some r) :
    ∃ u, (Instr.sliceAt t cx clo chi cmx).run P w = .ok u w ∧ VR ρ r u := by
  unfold sliceA at hr
  split at hr
  · rename_i s0 b0 z0 e0 s hi0
    obtain ⟨d, inf, z, hti⟩ := tiOf_spec (hE _ _ hi0)
    rw [VR.string hx]
    split at hr
    · rename_i l hh e1 e2
      cases hc : (Nat.ble l hh && Nat.ble hh s.size) with
      | false => rw [hc] at hr; cases hr
      | true =>
        rw [hc] at hr; cases hr
        simp only [Bool.and_eq_true, Nat.ble_eq] at hc
        cases h3
        exact ⟨_, sliceAt_str_run hti (kOf_str hti.k) (sliceBounds_run false h1 h2 (mx := none) (cmx := none) rfl rfl e2 e1 (Nat.le_refl _) hc.2 hc.1 (by simp)), rfl⟩
    · cases hr
  · rename_i e0 s0 b0 z0 q0 hi0
    obtain ⟨d, inf, z, hti⟩ := tiOf_spec (hE _ _ hi0)
    have : cx = .slice none 0 0 := hx
    subst this
    split at hr
    · rename_i i2 he e1 e2
      obtain ⟨d2, inf2, z2, hti2⟩ := tiOf_spec (hE _ _ he)
      cases hr
      cases h3
      have hb := sliceBounds_run (P := P) (w := w) true h1 h2 (mx := none) (cmx := none) rfl (cap := 0) rfl e2 e1 (Nat.le_refl _) (Nat.le_refl _) (Nat.le_refl _) (by simp)
      exact ⟨_, sliceAt_slice_run hti (kOf_sl hti.k) hti2 rfl hb, rfl⟩
    · rename_i i2 mv he e1 e2
      obtain ⟨d2, inf2, z2, hti2⟩ := tiOf_spec (hE _ _ he)
      split at hr
      · rename_i hv hmv
        cases hr
        have hb := sliceBounds_run (P := P) (w := w) true h1 h2 h3 (cap := 0) (m := 0) hmv e2 e1 (Nat.le_refl _) (Nat.le_refl _) (Nat.le_refl _) (by simp)
        exact ⟨_, sliceAt_slice_run hti (kOf_sl hti.k) hti2 rfl hb, rfl⟩
      · cases hr
    · cases hr
  · rename_i e0 s0 b0 z0 q0 a n c hi0
    obtain ⟨d, inf, z, hti⟩ := tiOf_spec (hE _ _ hi0)
    obtain ⟨loc, hl1, hl2, hsr⟩ := hx
    split at hr
    · rename_i k2 sz b2 z2 q2 l hh he e1 e2
      obtain ⟨d2, inf2, z2, hti2⟩ := tiOf_spec (hE _ _ he)
      cases h3
      cases hu : unk c with
      | true =>
        rw [hu] at hr
        simp only [cond_true] at hr
        cases hc : (Nat.ble l hh && Nat.ble hh n && Nat.beq c (U + sz)) with
        | false => rw [hc] at hr; cases hr
        | true =>
          rw [hc] at hr; cases hr
          simp only [Bool.and_eq_true, Nat.ble_eq, Nat.beq_eq] at hc
          obtain ⟨⟨c1, c2⟩, rfl⟩ := hc
          rcases hsr with ⟨k', rfl, g1, g2, _⟩ | ⟨g1, g2, o', rfl⟩
          · have hb := sliceBounds_run (P := P) (w := w) true h1 h2 (mx := none) (cmx := none) rfl (cap := k') rfl e2 e1 (Nat.le_refl _) (by omega) c1 (by simp)
            refine ⟨_, sliceAt_slice_run hti (kOf_sl hti.k) hti2 rfl hb, loc, hl1, rfl, ?_⟩
            by_cases hkl : k' = l
            · rw [if_pos hkl]
              refine .inr ⟨by omega, by omega, loc.off + a.off, ?_⟩
              have : hh - l = 0 := by omega
              have h2' : k' - l = 0 := by omega
              rw [this, h2']
            · rw [if_neg hkl]
              refine .inl ⟨k' - l, ?_, by omega, fun _ => ?_, fun h => by omega⟩
              · simp only [Option.map_some, add_mk, addO, Nat.add_assoc]
              · have := g2 (by omega)
                have e : U + sz - U = sz := by omega
                simp only [addO, e] at this ⊢
                have : l * sz + (k' - l) * sz = k' * sz := by rw [← Nat.add_mul]; congr 1; omega
                omega
          · have hl0 : l = 0 := by omega
            have hh0 : hh = 0 := by omega
            subst g1; subst hl0; subst hh0
            have hb := sliceBounds_run (P := P) (w := w) true h1 h2 (mx := none) (cmx := none) rfl (cap := 0) rfl e2 e1 (Nat.le_refl _) (Nat.le_refl _) (Nat.le_refl _) (by simp)
            refine ⟨_, sliceAt_slice_run hti (kOf_sl hti.k) hti2 rfl hb, loc, hl1, rfl, .inr ⟨rfl, by omega, o', ?_⟩⟩
            simp
      | false =>
        rw [hu] at hr
        simp only [cond_false] at hr
        have hlt := unk_lt hu
        obtain ⟨g2, o', rfl, g3⟩ := hsr.known hu
        cases hc : (Nat.ble l hh && Nat.ble hh c) with
        | false => rw [hc] at hr; cases hr
        | true =>
          rw [hc] at hr; cases hr
          simp only [Bool.and_eq_true, Nat.ble_eq] at hc
          have hb := sliceBounds_run (P := P) (w := w) true h1 h2 (mx := none) (cmx := none) rfl (cap := c) rfl e2 e1 (Nat.le_refl _) (by omega) hc.1 (by simp)
          refine ⟨_, sliceAt_slice_run hti (kOf_sl hti.k) hti2 rfl hb, ?_⟩
          cases hcl : Nat.beq c l with
          | true =>
            have hcl' := Nat.eq_of_beq_eq_true hcl
            rw [if_pos hcl']
            refine ⟨loc, hl1, hl2, ?_⟩
            have e0 : hh - l = 0 := by omega
            have e1 : c - l = 0 := by omega
            rw [e0, e1]
            exact .inr ⟨rfl, .inr rfl, o', rfl⟩
          | false =>
            have hcl' := Nat.ne_of_beq_eq_false hcl
            rw [if_neg hcl']
            have hof : o' = loc.off + a.off := by rcases g3 with h | h <;> omega
            subst hof
            refine ⟨loc, hl1, rfl, .inl ⟨_, ?_, by omega, fun h => by omega, fun _ => rfl⟩⟩
            simp only [Option.map_some, add_mk, addO, Nat.add_assoc, cond_false]
    · rename_i k2 sz b2 z2 q2 l hh mv he e1 e2
      obtain ⟨d2, inf2, z2, hti2⟩ := tiOf_spec (hE _ _ he)
      split at hr
      · rename_i hv m hm
        have hgen : ∀ (c' : Nat) (ad : Addr), m ≤ c' → l ≤ hh → hh ≤ m → (Instr.sliceAt t (.slice (some ad) n c') clo chi cmx).run P w = .ok (.slice (if m = l then some ad else some (ad.add (l * sz))) (hh - l) (m - l)) w := fun c' ad q1 q2 q3 => by
          have hb := sliceBounds_run (P := P) (w := w) true h1 h2 h3 (cap := c') (len := n) (m := m) hm e2 e1 q1 q3 q2 (by simp)
          have := sliceAt_slice_run hti (kOf_sl hti.k) hti2 rfl hb (a := some ad)
          rw [this]
          simp
        cases hc : (Nat.ble l hh && Nat.ble hh m && Nat.ble m (bif unk c then n else c) && !unk m) with
        | false => rw [hc] at hr; cases hr
        | true =>
          rw [hc] at hr; cases hr
          simp only [Bool.and_eq_true, Nat.ble_eq, Bool.not_eq_true'] at hc
          obtain ⟨⟨⟨c1, c2⟩, c3⟩, c4⟩ := hc
          have hmU := unk_lt c4
          have hcase : ∃ k' o', cx = .slice (some ⟨loc.blk, o', none⟩) n k' ∧ m ≤ k' ∧ (o' = loc.off + a.off ∨ m = 0) := by
            cases hu : unk c with
            | true =>
              rw [hu] at c3
              simp only [cond_true] at c3
              rcases hsr with ⟨k', rfl, g1, g2, g3⟩ | ⟨g1, g2, o', rfl⟩
              · exact ⟨k', _, rfl, by omega, .inl rfl⟩
              · exact ⟨0, o', by rw [g1], by omega, .inr (by omega)⟩
            | false =>
              rw [hu] at c3
              simp only [cond_false] at c3
              obtain ⟨g2, o', rfl, g3⟩ := hsr.known hu
              exact ⟨c, o', rfl, c3, by rcases g3 with h | h; exact .inl h; exact .inr (by omega)⟩
          obtain ⟨k', o', rfl, hmk, hof⟩ := hcase
          refine ⟨_, hgen k' _ hmk c1 c2, ?_⟩
          cases hcl : Nat.beq m l with
          | true =>
            have hcl' := Nat.eq_of_beq_eq_true hcl
            rw [if_pos hcl']
            refine ⟨loc, hl1, hl2, ?_⟩
            have e0 : hh - l = 0 := by omega
            have e1 : m - l = 0 := by omega
            rw [e0, e1]
            exact .inr ⟨rfl, .inr rfl, o', rfl⟩
          | false =>
            have hcl' := Nat.ne_of_beq_eq_false hcl
            rw [if_neg hcl']
            have hof : o' = loc.off + a.off := by rcases hof with h | h <;> omega
            subst hof
            refine ⟨loc, hl1, rfl, .inl ⟨_, ?_, by omega, fun h => by omega, fun _ => rfl⟩⟩
            simp only [add_mk, addO, Nat.add_assoc, cond_false]
      · cases hr
    · cases hr
  · rename_i n e0 s0 b0 z0 q0 a hi0
    obtain ⟨d, inf, z, hti⟩ := tiOf_spec (hE _ _ hi0)
    obtain ⟨loc, hl1, hl2, rfl⟩ := hx
    split at hr
    · rename_i k2 sz b2 z2 q2 l hh he e1 e2
      obtain ⟨d2, inf2, z2, hti2⟩ := tiOf_spec (hE _ _ he)
      cases h3
      cases hc : (Nat.ble l hh && Nat.ble hh n && !unk n) with
      | false => rw [hc] at hr; cases hr
      | true =>
        rw [hc] at hr; cases hr
        simp only [Bool.and_eq_true, Nat.ble_eq, Bool.not_eq_true'] at hc
        obtain ⟨⟨c1, c2⟩, c3⟩ := hc
        have hnU := unk_lt c3
        have hb := sliceBounds_run (P := P) (w := w) false h1 h2 (mx := none) (cmx := none) rfl (cap := n) rfl e2 e1 (Nat.le_refl _) c2 c1 (by simp)
        refine ⟨_, sliceAt_arr_run hti (kOf_arr hti.k) hti2 rfl hb, ?_⟩
        cases hcl : Nat.beq n l with
        | true =>
          rw [if_pos (Nat.eq_of_beq_eq_true hcl)]
          exact ⟨loc, hl1, hl2, .inl ⟨_, rfl, by omega, fun h => by omega, fun _ => rfl⟩⟩
        | false =>
          rw [if_neg (Nat.ne_of_beq_eq_false hcl)]
          refine ⟨loc, hl1, rfl, .inl ⟨_, ?_, by omega, fun h => by omega, fun _ => rfl⟩⟩
          simp only [add_mk, addO, Nat.add_assoc, cond_false]
    · cases hr
  · cases hr
end
end Go.Ab
/- Fields, indices, aggregates, lengths. -/
namespace Go.Ab
open Go.RowKit
section
variable {P : Program} {ρ : Ren} {h : Hp} {w : World} {E : Nat → Option TI}
def partA (E : Nat → Option TI) (t off : Nat) (cs : List Value) : Option Value :=
  match E t with
  | some i =>
    let r := takeN i.size (dropN off cs)
    bif Nat.beq r.length i.size then pk i.k r else none
  | none => none
theorem partA_sound (hE : EnvOK P E) {t off : Nat} {cs : List Value} {cc : Array Value} {r : Value} (hv : VRL ρ cs cc.toList) (hr : partA E t off cs = some r) :
    ∃ u, (part t cc off).run P w = .ok u w ∧ VR ρ r u := by
  unfold partA at hr
  split at hr
  · rename_i i hi
    obtain ⟨d, inf, z, hti⟩ := tiOf_spec (hE _ _ hi)
    dsimp only at hr
    cases hb : Nat.beq (takeN i.size (dropN off cs)).length i.size with
    | false => rw [hb] at hr; cases hr
    | true =>
      rw [hb] at hr
      simp only [cond_true] at hr
      have hlen := Nat.eq_of_beq_eq_true hb
      rw [takeN_eq, dropN_eq] at hr hlen
      have hsub : VRL ρ ((cs.drop off).take i.size) ((cc.toList.drop off).take i.size) := (hv.drop off).take i.size
      simp only [part, Sem.run_bind, isAgg_run hti, Result.andThen_ok]
      unfold pk at hr
      cases hk : isAggK i.k with
      | true =>
        rw [hk] at hr
        cases hr
        simp only [sizeOf_run hti, Sem.run_bind, Sem.run_pure, Result.andThen_ok, if_true]
        refine ⟨_, rfl, _, rfl, VRA.iff.2 ?_⟩
        have : (cc.extract off (off + i.size)).toList = (cc.toList.drop off).take i.size := by
          simp [Array.toList_extract, List.extract_eq_take_drop]
        rw [this]
        exact hsub
      | false =>
        rw [hk] at hr
        simp only [cond_false] at hr
        split at hr
        · rename_i v hv1
          cases hr
          rw [hv1] at hsub hlen
          obtain ⟨v', l', e1, e2, e3⟩ := hsub
          have hs1 : 1 = i.size := by simpa using hlen
          have h0 : ((cc.toList.drop off).take i.size)[0]? = some v' := by rw [e1]; rfl
          rw [List.getElem?_take, if_pos (by omega), List.getElem?_drop] at h0
          have h0' : cc[off]? = some v' := by simpa using h0
          simp only [Bool.false_eq_true, if_false, h0', Sem.run_pure]
          exact ⟨v', rfl, e2⟩
        · cases hr
  · cases hr
def fieldA (E : Nat → Option TI) (t : Nat) (x : Value) (f : Nat) : Option Value :=
  match E t, x with
  | some { k := .st fs, .. }, .agg cs => (match nth fs f with | some (o, ft) => partA E ft o cs.toList | none => none)
  | _, _ => none
theorem fieldA_sound (hE : EnvOK P E) {t f : Nat} {x c r : Value} (hx : VR ρ x c) (hr : fieldA E t x f = some r) : ∃ u, (Instr.field t c f).run P w = .ok u w ∧ VR ρ r u := by
  unfold fieldA at hr
  split at hr
  · rename_i fs s0 b0 z0 e0 cs hi
    obtain ⟨d, inf, z, hti⟩ := tiOf_spec (hE _ _ hi)
    obtain ⟨fl, hd, hfs⟩ := kOf_st hti.k
    obtain ⟨cc, rfl, hcc⟩ := VR.agg_inv hx
    split at hr
    · rename_i o ft hn
      rw [nth_eq, hfs, List.getElem?_map] at hn
      cases hf : fl.toList[f]? with
      | none => rw [hf] at hn; cases hn
      | some fd =>
        rw [hf] at hn
        cases hn
        obtain ⟨u, h1, h2⟩ := partA_sound (w := w) hE hcc hr
        refine ⟨u, ?_, h2⟩
        have hf' : fl[f]? = some fd := by simpa using hf
        simp only [Instr.field, Sem.run_bind, run_underlying hti.und, hd, Result.andThen_ok, hf', asAgg, Sem.run_pure]
        exact h1
    · cases hr
  · cases hr
def fieldAddrA (E : Nat → Option TI) (t : Nat) (x : Value) (f : Nat) : Option Value :=
  match E t, x with
  | some { k := .st fs, .. }, .pointer (some a) => (match nth fs f with
    | some (o, ft) => (match E ft with | some { size := _ + 1, .. } => some (.pointer (some (bif Nat.beq o 0 then a else addO o a))) | _ => none)
    | none => none)
  | _, _ => none
theorem fieldAddrA_sound (hE : EnvOK P E) {t f : Nat} {x c r : Value} (hx : VR ρ x c) (hr : fieldAddrA E t x f = some r) : ∃ u, (Instr.fieldAt t c f).run P w = .ok u w ∧ VR ρ r u := by
  unfold fieldAddrA at hr
  split at hr
  · rename_i fs s0 b0 z0 e0 a hi
    obtain ⟨d, inf, z, hti⟩ := tiOf_spec (hE _ _ hi)
    obtain ⟨fl, hd, hfs⟩ := kOf_st hti.k
    obtain ⟨l, g1, g2, rfl⟩ := hx
    split at hr
    · rename_i o ft hn
      split at hr
      · rename_i k1 n1 b1 z1 q1 he
        cases hr
        obtain ⟨d2, inf2, z2, hti2⟩ := tiOf_spec (hE _ _ he)
        rw [nth_eq, hfs, List.getElem?_map] at hn
        cases hf : fl.toList[f]? with
        | none => rw [hf] at hn; cases hn
        | some fd =>
          rw [hf] at hn
          cases hn
          have hf' : fl[f]? = some fd := by simpa using hf
          have hs := sizeOf_run (w := w) hti2
          simp only [Instr.fieldAt, Sem.run_bind, run_underlying hti.und, hd, Result.andThen_ok, hf', Instr.sureAddr, Sem.run_pure, fieldPlace, hs]
          refine ⟨_, rfl, ?_⟩
          rw [add_mk]
          cases hc : Nat.beq fd.offset 0 with
          | true =>
            have := Nat.eq_of_beq_eq_true hc
            exact ⟨l, g1, g2, by simp [this]⟩
          | false => exact ⟨l, g1, rfl, by simp [addO, Nat.add_assoc]⟩
      · cases hr
    · cases hr
  · cases hr
def indexAddrA (E : Nat → Option TI) (t : Nat) (x i : Value) : Option Value :=
  match E t, x, natOf i with
  | some { k := .sl e, .. }, .slice (some a) n _, some i => (match E e with | some { size := sz, .. } => bif Nat.ble (i + 1) n then some (.pointer (some (addO (i * sz) a))) else none | none => none)
  | some { k := .arr n e, .. }, .pointer (some a), some i => (match E e with | some { size := sz, .. } => bif Nat.ble (i + 1) n then some (.pointer (some (addO (i * sz) a))) else none | none => none)
  | _, _, _ => none
theorem indexAddrA_sound (hE : EnvOK P E) {t : Nat} {x i cx ci r : Value} (hx : VR ρ x cx) (hi : VR ρ i ci) (hr : indexAddrA E t x i = some r) :
    ∃ u, (Instr.indexAt t cx ci).run P w = .ok u w ∧ VR ρ r u := by
  unfold indexAddrA at hr
  split at hr
  · rename_i e s0 b0 z0 q0 a n c j hi0 hj
    obtain ⟨d, inf, z, hti⟩ := tiOf_spec (hE _ _ hi0)
    obtain ⟨k, rfl⟩ := natOf_spec hi hj
    obtain ⟨l, g1, g2, hsr⟩ := hx
    split at hr
    · rename_i k2 sz b2 z2 q2 he
      obtain ⟨d2, inf2, z2, hti2⟩ := tiOf_spec (hE _ _ he)
      cases hb : Nat.ble (j + 1) n with
      | false => rw [hb] at hr; cases hr
      | true =>
        rw [hb] at hr; cases hr
        have hlt : j < n := Nat.le_of_ble_eq_true hb
        rcases hsr with ⟨k', rfl, _⟩ | ⟨h0, _⟩
        · have hd := kOf_sl hti.k
          subst hd
          have h1 : (0 : Int) ≤ (j : Int) ∧ (j : Int) < (n : Int) := by omega
          simp only [Instr.indexAt, asIntOf, Sem.run_bind, run_underlying hti.und, Result.andThen_ok, Sem.run_pure, h1, sizeOf_run hti2, if_true, Int.toNat_natCast, and_self]
          exact ⟨_, rfl, l, g1, rfl, by rw [add_mk]; simp [addO, Nat.add_assoc]⟩
        · omega
    · cases hr
  · rename_i n e s0 b0 z0 q0 a j hi0 hj
    obtain ⟨d, inf, z, hti⟩ := tiOf_spec (hE _ _ hi0)
    obtain ⟨k, rfl⟩ := natOf_spec hi hj
    obtain ⟨l, g1, g2, rfl⟩ := hx
    split at hr
    · rename_i k2 sz b2 z2 q2 he
      obtain ⟨d2, inf2, z2, hti2⟩ := tiOf_spec (hE _ _ he)
      cases hb : Nat.ble (j + 1) n with
      | false => rw [hb] at hr; cases hr
      | true =>
        rw [hb] at hr; cases hr
        have hlt : j < n := Nat.le_of_ble_eq_true hb
        have hd := kOf_arr hti.k
        subst hd
        have h1 : (0 : Int) ≤ (j : Int) ∧ (j : Int) < (n : Int) := by omega
        simp only [Instr.indexAt, asIntOf, Sem.run_bind, run_underlying hti.und, Result.andThen_ok, Sem.run_pure, Instr.sureAddr, h1, sizeOf_run hti2, if_true, Int.toNat_natCast, and_self]
        exact ⟨_, rfl, l, g1, rfl, by rw [add_mk]; simp [addO, Nat.add_assoc]⟩
    · cases hr
  · cases hr
def indexA (E : Nat → Option TI) (t : Nat) (x i : Value) : Option Value :=
  match E t, x, natOf i with
  | some { k := .arr n e, .. }, .agg cs, some i => (match E e with | some { size := sz, .. } => bif Nat.ble (i + 1) n then partA E e (i * sz) cs.toList else none | none => none)
  | some { k := .str, .. }, .string s, some i => (match nth s.data.toList i with | some b => some (.int .u8 b.toNat) | none => none)
  | _, _, _ => none
theorem indexA_sound (hE : EnvOK P E) {t : Nat} {x i cx ci r : Value} (hx : VR ρ x cx) (hi : VR ρ i ci) (hr : indexA E t x i = some r) :
    ∃ u, (Instr.index t cx ci).run P w = .ok u w ∧ VR ρ r u := by
  unfold indexA at hr
  split at hr
  · rename_i n e s0 b0 z0 q0 cs j hi0 hj
    obtain ⟨d, inf, z, hti⟩ := tiOf_spec (hE _ _ hi0)
    obtain ⟨k, rfl⟩ := natOf_spec hi hj
    obtain ⟨cc, rfl, hcc⟩ := VR.agg_inv hx
    split at hr
    · rename_i k2 sz b2 z2 q2 he
      obtain ⟨d2, inf2, z2, hti2⟩ := tiOf_spec (hE _ _ he)
      cases hb : Nat.ble (j + 1) n with
      | false => rw [hb] at hr; cases hr
      | true =>
        rw [hb] at hr
        have hlt : j < n := Nat.le_of_ble_eq_true hb
        have hd := kOf_arr hti.k
        subst hd
        have h1 : (0 : Int) ≤ (j : Int) ∧ (j : Int) < (n : Int) := by omega
        simp only [Instr.index, asIntOf, Sem.run_bind, run_underlying hti.und, Result.andThen_ok, Sem.run_pure, h1, sizeOf_run hti2, if_true, Int.toNat_natCast, and_self]
        exact partA_sound hE hcc hr
    · cases hr
  · rename_i s0 b0 z0 q0 s j hi0 hj
    obtain ⟨d, inf, z, hti⟩ := tiOf_spec (hE _ _ hi0)
    obtain ⟨k, rfl⟩ := natOf_spec hi hj
    rw [VR.string hx]
    split at hr
    · rename_i b hb
      cases hr
      have hd := kOf_str hti.k
      subst hd
      rw [nth_eq] at hb
      have hg : s[j]? = some b := by
        have hlt : j < s.size := by have := (List.getElem?_eq_some_iff.1 hb).1; show j < s.data.size; simpa using this
        rw [getElem?_pos s j hlt]
        have := (List.getElem?_eq_some_iff.1 hb).2
        rw [← this]
        rfl
      have h0 : (0 : Int) ≤ (j : Int) := by omega
      simp only [Instr.index, asIntOf, Sem.run_bind, run_underlying hti.und, Result.andThen_ok, Sem.run_pure, h0, if_true, Int.toNat_natCast, hg]
      exact ⟨_, rfl, rfl⟩
    · cases hr
  · cases hr
def extractA (x : Value) (i : Nat) : Option Value :=
  match x with
  | .tuple vs => nth vs.toList i
  | _ => none
theorem extractA_sound {x c r : Value} {i : Nat} (hx : VR ρ x c) (hr : extractA x i = some r) : ∃ u, (Instr.extract c i).run P w = .ok u w ∧ VR ρ r u := by
  unfold extractA at hr
  split at hr
  · obtain ⟨cs, rfl, h2⟩ := hx
    rw [nth_eq] at hr
    obtain ⟨u, h3, h4⟩ := (VRA.iff.1 h2).get i r hr
    have h3' : cs[i]? = some u := by simpa using h3
    exact ⟨u, by simp [Instr.extract, h3'], h4⟩
  · cases hr
/- parts laid into a zero value -/
def fillA (place : Nat → Option (Nat × Nat)) : List Value → List (Nat × Value) → Option (List Value)
  | cs, [] => some cs
  | cs, (i, v) :: rest =>
    match place i with
    | some (off, size) => bif known v && Nat.beq (cellsOf v).length size then (match repl cs off (cellsOf v) with | some cs' => fillA place cs' rest | none => none) else none
    | none => none
def VRP (ρ : Ren) : List (Nat × Value) → List (Nat × Value) → Prop
  | [], l => l = []
  | (i, v) :: r, l => ∃ u l', l = (i, u) :: l' ∧ VR ρ v u ∧ VRP ρ r l'
theorem foldl_set (off : Nat) : ∀ (us : List Value) (k : Nat) (cs : Array Value), off + k + us.length ≤ cs.size →
    ((us.zipIdx k).foldl (fun cs (c, j) => cs.setIfInBounds (off + j) c) cs).size = cs.size ∧
    ∀ j, ((us.zipIdx k).foldl (fun cs (c, j) => cs.setIfInBounds (off + j) c) cs)[j]? = if off + k ≤ j ∧ j < off + k + us.length then us[j - (off + k)]? else cs[j]?
  | [], k, cs, _ => ⟨rfl, fun j => by rw [if_neg (by simp)]; rfl⟩
  | u :: us, k, cs, hl => by
    simp only [List.length_cons] at hl
    obtain ⟨h1, h2⟩ := foldl_set off us (k + 1) (cs.setIfInBounds (off + k) u) (by simp; omega)
    simp only [List.zipIdx_cons, List.foldl_cons]
    refine ⟨by rw [h1]; simp, fun j => ?_⟩
    rw [h2 j]
    simp only [List.length_cons]
    by_cases hj : off + (k + 1) ≤ j ∧ j < off + (k + 1) + us.length
    · rw [if_pos hj, if_pos (by omega), show j - (off + k) = (j - (off + (k + 1))) + 1 by omega, List.getElem?_cons_succ]
    · rw [if_neg hj, Array.getElem?_setIfInBounds]
      by_cases hjo : off + k = j
      · subst hjo; rw [if_pos rfl, if_pos (by omega), if_pos (by omega)]; simp
      · rw [if_neg hjo, if_neg (by omega)]
theorem fillA_sound {place : Nat → Option (Nat × Nat)} : ∀ {parts parts' : List (Nat × Value)} {cs r : List Value} {cc : Array Value}, VRP ρ parts parts' → VRL ρ cs cc.toList → fillA place cs parts = some r →
    ∃ cc', Instr.fill place cc parts' = some cc' ∧ VRL ρ r cc'.toList
  | [], parts', cs, r, cc, hp, hc, hr => by
    cases hp
    cases hr
    exact ⟨cc, rfl, hc⟩
  | (i, v) :: rest, parts', cs, r, cc, hp, hc, hr => by
    obtain ⟨u, l', rfl, hv, hrest⟩ := hp
    unfold fillA at hr
    split at hr
    · rename_i off size hpl
      cases hb : (known v && Nat.beq (cellsOf v).length size) with
      | false => rw [hb] at hr; cases hr
      | true =>
        rw [hb] at hr
        simp only [cond_true] at hr
        simp only [Bool.and_eq_true, Nat.beq_eq] at hb
        obtain ⟨hkn, hb⟩ := hb
        split at hr
        · rename_i cs' hcs'
          obtain ⟨r1, r2, r3⟩ := repl_spec _ _ _ _ hcs'
          have hvl := (hv.cells hkn).length
          have hcl := hc.length
          have hsz := hb
          have hus : u.cells.size = size := by simpa [hsz] using hvl.symm
          have hfit : off + u.cells.size ≤ cc.size := by simp only [Array.length_toList] at hcl hvl; omega
          obtain ⟨f1, f2⟩ := foldl_set off u.cells.toList 0 cc (by simpa using hfit)
          have hzip : u.cells.zipIdx.foldl (fun cs (c, j) => cs.setIfInBounds (off + j) c) cc = u.cells.toList.zipIdx.foldl (fun cs (c, j) => cs.setIfInBounds (off + j) c) cc := by
            rw [← Array.foldl_toList, Array.toList_zipIdx]
          obtain ⟨cc', g1, g2⟩ := fillA_sound (cc := u.cells.zipIdx.foldl (fun cs (c, j) => cs.setIfInBounds (off + j) c) cc) hrest (by
            rw [hzip]
            refine VRL.of_get (by simp only [Array.length_toList, f1, r2]; simpa using hcl) fun j x hx => ?_
            rw [r3 j] at hx
            rw [Array.getElem?_toList, f2 j]
            simp only [Nat.add_zero, Array.length_toList] at *
            by_cases hj : off ≤ j ∧ j < off + (cellsOf v).length
            · rw [if_pos hj] at hx
              rw [if_pos (by omega)]
              exact (hv.cells hkn).get _ _ hx
            · rw [if_neg hj] at hx
              rw [if_neg (by omega)]
              obtain ⟨y, hy1, hy2⟩ := hc.get j x hx
              exact ⟨y, by simpa using hy1, hy2⟩) hr
          refine ⟨cc', ?_, g2⟩
          simp only [Instr.fill, hpl]
          rw [if_neg (by simp only [Bool.or_eq_true, decide_eq_true_eq, not_or]; omega)]
          exact g1
        · cases hr
    · cases hr
end
end Go.Ab
/- Aggregates, new slices, interfaces, lengths. -/
namespace Go.Ab
open Go.RowKit
section
variable {P : Program} {ρ : Ren} {h : Hp} {w : World} {E : Nat → Option TI}
/-- where a struct's fields lie, with their sizes -/
def places (E : Nat → Option TI) : List (Nat × Nat) → Option (List (Nat × Nat))
  | [] => some []
  | (o, t) :: r => match E t, places E r with
    | some { size := sz, .. }, some l => some ((o, sz) :: l)
    | _, _ => none
theorem places_run (hE : EnvOK P E) : ∀ (fs : List Field) (l : List (Nat × Nat)), places E (fs.map fun f => (f.offset, f.type)) = some l →
    (fs.mapM (fun f => do pure (f.offset, ← sizeOf f.type) : Field → Sem (Nat × Nat))).run P w = .ok l w
  | [], l, hl => by cases hl; rfl
  | f :: fs, l, hl => by
    simp only [List.map_cons, places] at hl
    split at hl
    · rename_i k sz b z q l' he hp
      cases hl
      obtain ⟨d, inf, z, hti⟩ := tiOf_spec (hE _ _ he)
      have ih := places_run hE fs l' hp
      rw [List.mapM_cons]
      simp only [Sem.run_bind, sizeOf_run hti, Result.andThen_ok, Sem.run_pure, ih]
    · cases hl
def buildA (E : Nat → Option TI) (t : Nat) (parts : List (Nat × Value)) : Option Value :=
  match E t with
  | some { k := .st fs, zero := z, .. } => (match places E fs with | some ps => (fillA (nth ps) z parts).map fun r => .agg r.toArray | none => none)
  | some { k := .arr _ e, zero := z, .. } => (match E e with | some { size := sz, .. } => (fillA (fun i => some (i * sz, sz)) z parts).map fun r => .agg r.toArray | none => none)
  | _ => none
theorem VR.agg_mk {r : List Value} {cc : Array Value} (h : VRL ρ r cc.toList) : VR ρ (.agg r.toArray) (.agg cc) := ⟨cc, rfl, h⟩
theorem buildA_sound (hE : EnvOK P E) {t : Nat} {parts : List (Nat × Value)} {cparts : Array (Nat × Value)} {r : Value} (hp : VRP ρ parts cparts.toList) (hr : buildA E t parts = some r) :
    ∃ u, (Instr.build t cparts).run P w = .ok u w ∧ VR ρ r u := by
  unfold buildA at hr
  split at hr
  · rename_i fs s0 b0 z0 q0 hi
    obtain ⟨d, inf, z, hti⟩ := tiOf_spec (hE _ _ hi)
    obtain ⟨fl, hd, hfs⟩ := kOf_st hti.k
    split at hr
    · rename_i ps hps
      simp only [Option.map_eq_some_iff] at hr
      obtain ⟨r', h1, rfl⟩ := hr
      have hz : VRL ρ z0 z.cells.toList := by rw [← hti.zc]; exact flats.vr hti.fl
      obtain ⟨cc', g1, g2⟩ := fillA_sound hp hz h1
      rw [hfs] at hps
      have hm := places_run (w := w) hE _ _ hps
      have hpl : (fun i => (ps.toArray)[i]?) = nth ps := by funext i; rw [nth_eq]; simp
      simp only [Instr.build, Sem.run_bind, zero_run hti, Result.andThen_ok, run_underlying hti.und, hd, Array.mapM_eq_mapM_toList, Sem.run_map, hm, hpl, g1, Sem.run_pure]
      exact ⟨_, rfl, VR.agg_mk g2⟩
    · cases hr
  · rename_i n e s0 b0 z0 q0 hi
    obtain ⟨d, inf, z, hti⟩ := tiOf_spec (hE _ _ hi)
    split at hr
    · rename_i k1 sz b1 z1 q1 he
      obtain ⟨d2, inf2, z2, hti2⟩ := tiOf_spec (hE _ _ he)
      simp only [Option.map_eq_some_iff] at hr
      obtain ⟨r', h1, rfl⟩ := hr
      have hz : VRL ρ z0 z.cells.toList := by rw [← hti.zc]; exact flats.vr hti.fl
      obtain ⟨cc', g1, g2⟩ := fillA_sound hp hz h1
      simp only [Instr.build, Sem.run_bind, zero_run hti, Result.andThen_ok, run_underlying hti.und, kOf_arr hti.k, sizeOf_run hti2, g1, Sem.run_pure]
      exact ⟨_, rfl, VR.agg_mk g2⟩
    · cases hr
  · cases hr
/-- so many times the zero cells -/
def zrep : Nat → List Value → List Value
  | 0, _ => []
  | n + 1, z => z ++ zrep n z
theorem zrep_len : ∀ (n : Nat) (z : List Value), (zrep n z).length = n * z.length
  | 0, _ => by simp [zrep]
  | n + 1, z => by simp [zrep, zrep_len n z, Nat.add_mul, Nat.add_comm]
theorem zrep_get : ∀ (n : Nat) (z : List Value) (j : Nat), j < n * z.length → (zrep n z)[j]? = z[j % z.length]?
  | 0, _, j, h => by simp at h
  | n + 1, z, j, h => by
    unfold zrep
    by_cases hj : j < z.length
    · rw [List.getElem?_append_left hj, Nat.mod_eq_of_lt hj]
    · have hge : z.length ≤ j := Nat.le_of_not_lt hj
      rw [List.getElem?_append_right hge, zrep_get n z (j - z.length) (by rw [Nat.add_mul] at h; omega)]
      congr 1
      exact (Nat.mod_eq_sub_mod hge).symm
theorem zrep_vr {z zc : List Value} (h : VRL ρ z zc) : ∀ n, VRL ρ (zrep n z) (zrep n zc)
  | 0 => rfl
  | n + 1 => h.append (zrep_vr h n)
theorem zrange (n : Nat) (z : Array Value) (h : z.size ≠ 0 ∨ n = 0) : ((Array.range (n * z.size)).map (z[· % z.size]!)).toList = zrep n z.toList := by
  refine List.ext_getElem? fun j => ?_
  simp only [Array.toList_map, Array.toList_range, List.getElem?_map]
  by_cases hj : j < n * z.size
  · rw [zrep_get n z.toList j (by simpa using hj)]
    have hz : 0 < z.size := by
      rcases h with h | h
      · omega
      · subst h; simp at hj
    have hm : j % z.size < z.size := Nat.mod_lt _ hz
    rw [List.getElem?_range hj]
    simp only [Option.map_some, Array.length_toList, Array.getElem?_toList]
    rw [getElem?_pos z _ hm, getElem!_pos z _ hm]
  · rw [List.getElem?_eq_none (by simp; omega), List.getElem?_eq_none (by rw [zrep_len]; simp; omega)]
    rfl
def buildSliceA (E : Nat → Option TI) (t n : Nat) (parts : List (Nat × Value)) (nid : Nat) : Option (Value × HE) :=
  match E t with
  | some { k := .sl e, .. } => (match E e with
    | some { size := sz, zero := z, .. } => bif Nat.ble (n * sz) 16777216 && Nat.ble 1 sz && !unk n then
        (match fillA (fun i => some (i * sz, sz)) (zrep n z) parts with | some r => some (.slice (some ⟨nid, 0, none⟩) n n, .new (.cells r false e)) | none => none) else none
    | none => none)
  | _ => none
theorem buildSliceA_sound (hE : EnvOK P E) (H : HR P ρ h w) {t n nid : Nat} {parts : List (Nat × Value)} {cparts : Array (Nat × Value)} {r : Value} {e : HE} (hp : VRP ρ parts cparts.toList)
    (hr : buildSliceA E t n parts nid = some (r, e)) (hn : h.get nid = none) {B : Nat} (hB : B ≤ nid) :
    ∃ ρ' u w', (Instr.buildSlice t n cparts).run P w = .ok u w' ∧ VR ρ' r u ∧ HR P ρ' (e.app nid h) w' ∧ Fr B ρ h w ρ' (e.app nid h) w' := by
  unfold buildSliceA at hr
  split at hr
  · rename_i el s0 b0 z0 q0 hi
    obtain ⟨d, inf, z, hti⟩ := tiOf_spec (hE _ _ hi)
    split at hr
    · rename_i k1 sz b1 z1 q1 he
      obtain ⟨d2, inf2, z2, hti2⟩ := tiOf_spec (hE _ _ he)
      cases hc : (Nat.ble (n * sz) 16777216 && Nat.ble 1 sz && !unk n) with
      | false => rw [hc] at hr; cases hr
      | true =>
        rw [hc] at hr
        simp only [cond_true] at hr
        simp only [Bool.and_eq_true, Nat.ble_eq, Bool.not_eq_true'] at hc
        obtain ⟨⟨c1, c2⟩, c3⟩ := hc
        split at hr
        · rename_i r' h1
          cases hr
          have hzl : VRL ρ z1 z2.cells.toList := by rw [← hti2.zc]; exact flats.vr hti2.fl
          have hzs : z2.cells.size = sz := by
            have h3 := hti2.len
            have h4 := hti2.zc
            dsimp only at h3 h4
            rw [h4] at h3
            simpa using h3
          have hcells : ((Array.range (n * sz)).map ((if n * sz = 0 then #[] else z2.cells)[· % (if n * sz = 0 then (#[] : Array Value) else z2.cells).size]!)).toList = zrep n z2.cells.toList := by
            by_cases h0 : n * sz = 0
            · have hn0 : n = 0 := by rcases Nat.mul_eq_zero.1 h0 with h | h; exact h; omega
              subst hn0
              simp [zrep]
            · rw [if_neg h0, ← hzs]
              exact zrange n z2.cells (.inl (by omega))
          obtain ⟨cc', g1, g2⟩ := fillA_sound (cc := (Array.range (n * sz)).map ((if n * sz = 0 then #[] else z2.cells)[· % (if n * sz = 0 then (#[] : Array Value) else z2.cells).size]!)) hp (by rw [hcells]; exact zrep_vr hzl n) h1
          have hnew := new_cells H hn hB g2 el []
          have hlen : r'.length = n * sz := by
            have h1' := g2.length
            have : ∀ (ps : List (Nat × Value)) (cs r : List Value), fillA (fun i => some (i * sz, sz)) cs ps = some r → r.length = cs.length := by
              intro ps
              induction ps with
              | nil => intro cs r h; cases h; rfl
              | cons p ps ih =>
                intro cs r h
                obtain ⟨i, v⟩ := p
                simp only [fillA] at h
                cases hb : (known v && Nat.beq (cellsOf v).length sz) with
                | false => rw [hb] at h; cases h
                | true =>
                  rw [hb] at h
                  simp only [cond_true] at h
                  split at h
                  · rename_i cs' hcs'
                    rw [ih _ _ h, (repl_spec _ _ _ _ hcs').2.1]
                  · cases h
            rw [this _ _ _ h1, zrep_len]
            have h3 := hti2.len
            dsimp only at h3
            rw [h3]
          refine ⟨_, .slice (some ⟨w.heap.size, 0, none⟩) n n, _, ?_, ?_, hnew.1, hnew.2⟩
          · have hgt : ¬ (n * sz > 2 ^ 24) := by omega
            by_cases h0 : n * sz = 0
            · have er : Array.range 0 = #[] := rfl
              simp only [h0, if_true, er, List.map_toArray, List.map_nil] at g1
              simp only [Instr.buildSlice, Sem.run_bind, run_underlying hti.und, kOf_sl hti.k, Result.andThen_ok, sizeOf_run hti2, h0, if_true, er, List.map_toArray, List.map_nil]
              simp [newRow, g1]
            · simp only [h0, if_false] at g1
              simp only [Instr.buildSlice, Sem.run_bind, run_underlying hti.und, kOf_sl hti.k, Result.andThen_ok, sizeOf_run hti2, hgt, if_false, h0, zero_run hti2, Sem.run_pure, g1, newRow_run]
              simp
          · refine ⟨_, by simp [Ren.put]; rfl, rfl, .inl ⟨n, by simp, Nat.le_refl _, fun hU => ?_, fun _ => rfl⟩⟩
            have := unk_lt c3
            omega
        · cases hr
    · cases hr
  · cases hr
def makeSliceA (E : Nat → Option TI) (t : Nat) (l c : Value) (nid : Nat) : Option (Value × HE) :=
  match E t, natOf l, natOf c with
  | some { k := .sl e, .. }, some l, some c => (match E e with
    | some { size := sz, bytes := b, zero := z, .. } => bif Nat.ble l c && Nat.ble c 1099511627776 && Nat.ble (b * c) 140737488355328 && Nat.ble 1 sz && !unk c then
        some (.slice (some ⟨nid, 0, none⟩) l c, .new (.cells (zrep c z) false e)) else none
    | none => none)
  | _, _, _ => none
theorem makeSliceA_sound (hE : EnvOK P E) (H : HR P ρ h w) {t nid : Nat} {l c cl cc r : Value} {e : HE} (h1 : VR ρ l cl) (h2 : VR ρ c cc)
    (hr : makeSliceA E t l c nid = some (r, e)) (hn : h.get nid = none) {B : Nat} (hB : B ≤ nid) :
    ∃ ρ' u w', (Instr.makeSlice t cl cc).run P w = .ok u w' ∧ VR ρ' r u ∧ HR P ρ' (e.app nid h) w' ∧ Fr B ρ h w ρ' (e.app nid h) w' := by
  unfold makeSliceA at hr
  split at hr
  · rename_i el s0 b0 z0 q0 ln cn hi e1 e2
    obtain ⟨d, inf, z, hti⟩ := tiOf_spec (hE _ _ hi)
    obtain ⟨k1, rfl⟩ := natOf_spec h1 e1
    obtain ⟨k2, rfl⟩ := natOf_spec h2 e2
    split at hr
    · rename_i k3 sz by3 z3 q3 he
      obtain ⟨d2, inf2, z2, hti2⟩ := tiOf_spec (hE _ _ he)
      cases hcc : (Nat.ble ln cn && Nat.ble cn 1099511627776 && Nat.ble (by3 * cn) 140737488355328 && Nat.ble 1 sz && !unk cn) with
      | false => rw [hcc] at hr; cases hr
      | true =>
        rw [hcc] at hr
        cases hr
        simp only [Bool.and_eq_true, Nat.ble_eq, Bool.not_eq_true'] at hcc
        obtain ⟨⟨⟨⟨c1, c2⟩, c3⟩, c4⟩, c5⟩ := hcc
        have hzl : VRL ρ z3 z2.cells.toList := by rw [← hti2.zc]; exact flats.vr hti2.fl
        have hzs : z2.cells.size = sz := by
          have h3 := hti2.len
          have h4 := hti2.zc
          dsimp only at h3 h4
          rw [h4] at h3
          simpa using h3
        have hnew := new_cells H hn hB (zrep_vr hzl cn) el []
        have w1 : IntKind.i64.wrap (ln : Int) = (ln : Int) := IntWalk.i64_in _ (by omega)
        have w2 : IntKind.i64.wrap (cn : Int) = (cn : Int) := IntWalk.i64_in _ (by omega)
        have hby : inf2.bytes = by3 := hti2.bytes.symm
        refine ⟨_, .slice (some ⟨w.heap.size, 0, none⟩) ln cn, _, ?_, ?_, hnew.1, hnew.2⟩
        · have t1 : ¬ ((cn : Int) < 0) := by omega
          have t2 : ¬ ((by3 : Int) * (cn : Int) > 2 ^ 48) := by
            have : ((by3 * cn : Nat) : Int) ≤ ((140737488355328 : Nat) : Int) := Int.ofNat_le.2 c3
            rw [Int.natCast_mul] at this
            omega
          have t3 : ¬ ((ln : Int) < 0) := by omega
          have t4 : ¬ ((ln : Int) > (cn : Int)) := by omega
          by_cases h0 : cn * sz = 0
          · have hn0 : cn = 0 := by rcases Nat.mul_eq_zero.1 h0 with h | h; exact h; omega
            subst hn0
            simp only [Instr.makeSlice, Sem.run_bind, run_underlying hti.und, kOf_sl hti.k, Result.andThen_ok, asInt, asIntOf, Sem.run_pure, info_run hti2, w1, w2, hby, t1, t2, t3, t4, decide_false, Bool.or_self, Bool.false_eq_true, if_false, run_askRoom, Int.toNat_natCast, sizeOf_run hti2, h0, if_true]
            have er : Array.range 0 = #[] := rfl
            simp [newRow, zrep, er]
          · have hcells : ((Array.range (cn * sz)).map (z2.cells[· % z2.cells.size]!)) = (zrep cn z2.cells.toList).toArray := by
              apply Array.ext'
              rw [← hzs]
              simpa using zrange cn z2.cells (.inl (by omega))
            simp only [Instr.makeSlice, Sem.run_bind, run_underlying hti.und, kOf_sl hti.k, Result.andThen_ok, asInt, asIntOf, Sem.run_pure, info_run hti2, w1, w2, hby, t1, t2, t3, t4, decide_false, Bool.or_self, Bool.false_eq_true, if_false, run_askRoom, Int.toNat_natCast, sizeOf_run hti2, h0, zero_run hti2, hcells]
            simp [newRow]
        · refine ⟨_, by simp [Ren.put]; rfl, rfl, .inl ⟨cn, by simp, c1, fun hU => ?_, fun _ => rfl⟩⟩
          have := unk_lt c5
          omega
    · cases hr
  · cases hr
end
end Go.Ab
