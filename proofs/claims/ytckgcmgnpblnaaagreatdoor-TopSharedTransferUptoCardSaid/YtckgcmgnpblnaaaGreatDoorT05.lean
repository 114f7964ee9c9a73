/- A part of the proof of a law over a given program: Mem3, Mem4. -/
import Derived.MapKept
import Derived.Test.YtckgcmgnpblnaaaGreatDoorT04
set_option linter.unusedVariables false
set_option linter.unusedSimpArgs false
/- Interfaces, maps, copies, lengths. -/
namespace Go.Ab
open Go.RowKit
section
variable {P : Program} {ρ : Ren} {h : Hp} {w : World} {E : Nat → Option TI}
theorem pk_zero {i : TI} {t : Nat} {d : TypeDesc} {inf : TypeInfo} {z r : Value} (hti : IsTI P t i d inf z) (hr : pk i.k i.zero = some r) : VR ρ r z := by
  have hzl : VRL ρ i.zero z.cells.toList := by rw [← hti.zc]; exact flats.vr hti.fl
  have ha := hti.agg
  unfold pk at hr
  cases hk : isAggK i.k with
  | true =>
    rw [hk] at hr
    cases hr
    rw [← hti.k, hk] at ha
    cases z <;> first | cases ha | skip
    exact ⟨_, rfl, hzl⟩
  | false =>
    rw [hk] at hr
    simp only [cond_false] at hr
    rw [← hti.k, hk] at ha
    split at hr
    · rename_i v hz
      rw [← Option.some.inj hr]
      have hz2 := hti.zc
      rw [hz] at hz2
      have : z.cells.toList = [z] := by cases z <;> first | rfl | cases ha
      rw [this] at hz2
      cases hz2
      have hf := hti.fl
      rw [hz] at hf
      unfold flats at hf
      cases hv : flat z with
      | false => rw [hv] at hf; cases hf
      | true => exact flat.vr hv
    · cases hr
def notIfc : K → Bool
  | .ifc _ | .oth => false
  | _ => true
theorem notIfc_spec {i : TI} {t : Nat} {d : TypeDesc} {inf : TypeInfo} {z : Value} (hti : IsTI P t i d inf z) (hk : notIfc i.k = true) : ∀ ms, d ≠ .interface ms := fun ms hd => by
  rw [hti.k, hd] at hk
  cases hk
def mkIfaceA (E : Nat → Option TI) (t : Nat) (x : Value) : Option Value :=
  match E t with
  | some i => bif notIfc i.k then some (.iface t x) else none
  | none => none
theorem mkIfaceA_sound (hE : EnvOK P E) {t : Nat} {x c r : Value} (hx : VR ρ x c) (hr : mkIfaceA E t x = some r) : ∃ u, (Instr.makeInterface t c).run P w = .ok u w ∧ VR ρ r u := by
  unfold mkIfaceA at hr
  split at hr
  · rename_i i hi
    cases hk : notIfc i.k with
    | false => rw [hk] at hr; cases hr
    | true =>
      rw [hk] at hr
      cases hr
      obtain ⟨d, inf, z, hti⟩ := tiOf_spec (hE _ _ hi)
      have hnd := notIfc_spec hti hk
      refine ⟨.iface t c, ?_, _, rfl, hx⟩
      simp only [Instr.makeInterface, Sem.run_bind, run_underlying hti.und, Result.andThen_ok]
      cases d <;> first | exact absurd rfl (hnd _) | rfl
  · cases hr
def typeAssertA (E : Nat → Option TI) (x : Value) (t : Nat) (ok : Bool) : Option Value :=
  match E t, x with
  | some i, .iface u v =>
    bif notIfc i.k then
      bif Nat.beq u t then some (bif ok then .tuple #[v, .bool true] else v)
      else bif ok then (match pk i.k i.zero with | some z => some (.tuple #[z, .bool false]) | none => none) else none
    else none
  | _, _ => none
theorem typeAssertA_sound (hE : EnvOK P E) {t xt : Nat} {ok : Bool} {x c r : Value} (hx : VR ρ x c) (hr : typeAssertA E x t ok = some r) : ∃ u, (Instr.typeAssert c xt t ok).run P w = .ok u w ∧ VR ρ r u := by
  unfold typeAssertA at hr
  split at hr
  · rename_i i u v hi
    cases hk : notIfc i.k with
    | false => rw [hk] at hr; cases hr
    | true =>
      rw [hk] at hr
      obtain ⟨d, inf, z, hti⟩ := tiOf_spec (hE _ _ hi)
      obtain ⟨v', rfl, hv⟩ := hx
      have hnd := notIfc_spec hti hk
      have hform : (Instr.typeAssert (.iface u v') xt t ok).run P w = (if u = t then (pure (if ok then .tuple #[v', .bool true] else v') : Sem Value) else
          (if ok then do pure (.tuple #[← zeroValue t, .bool false]) else runtimePanic (.typeAssertion (some xt) (some u) t ""))).run P w := by
        simp only [Instr.typeAssert, Sem.run_bind, run_underlying hti.und, Result.andThen_ok]
      cases hc : Nat.beq u t with
      | true =>
        rw [hc] at hr
        cases hr
        rw [hform, if_pos (Nat.eq_of_beq_eq_true hc)]
        cases ok with
        | true => exact ⟨_, rfl, _, rfl, VRA.iff.2 ⟨_, _, rfl, hv, _, _, rfl, rfl, rfl⟩⟩
        | false => exact ⟨_, rfl, hv⟩
      | false =>
        rw [hc] at hr
        simp only [cond_true, cond_false] at hr
        cases ok with
        | false => cases hr
        | true =>
          simp only [cond_true] at hr
          split at hr
          · rename_i zz hz
            cases hr
            rw [hform, if_neg (Nat.ne_of_beq_eq_false hc)]
            exact ⟨.tuple #[z, .bool false], by simp [zero_run hti], _, rfl, VRA.iff.2 ⟨_, _, rfl, pk_zero hti hz, _, _, rfl, rfl, rfl⟩⟩
          · cases hr
  · cases hr
/- maps whose keys are whole numbers or strings -/
def keyEq : Value → Value → Option Bool
  | .int k a, .int k' b => bif kindEq k k' then some (a == b) else none
  | .string a, .string b => some (bytesEq a b)
  | .agg xs, .agg ys => bif Nat.beq xs.size ys.size then eqCells xs.toList ys.toList else none
  | _, _ => none
def keyK : K → Value → Bool
  | .int k, .int k' _ => kindEq k k'
  | .str, .string _ => true
  | _, _ => false
/-- where a key is, and the value beside it -/
def findA (k : Value) : List (Value × Value × Nat) → Nat → Option (Option (Nat × Value))
  | [], _ => some none
  | (k', v, _) :: es, i =>
    match keyEq k k' with
    | some true => some (some (i, v))
    | some false => findA k es (i + 1)
    | none => none
theorem isKey {t : Nat} {i : TI} {d : TypeDesc} {inf : TypeInfo} {z k : Value} (hti : IsTI P t i d inf z) (hk : keyK i.k k = true) : MapKept.IsKey d k := by
  unfold keyK at hk
  split at hk
  · rename_i kk kk' n hK
    cases kOf_int (hK.symm.trans hti.k)
    exact (kindEq_spec hk).symm
  · rename_i s hK
    cases kOf_str (hK.symm.trans hti.k)
    trivial
  · cases hk
theorem checkKey_run {t : Nat} {i : TI} {d : TypeDesc} {inf : TypeInfo} {z k : Value} (hti : IsTI P t i d inf z) (hk : keyK i.k k = true) (b : Bool) : (Instr.checkKey b 10000 t k).run P w = .ok () w :=
  MapKept.run_checkKey hti.und (isKey hti hk) b 9999
theorem VR.key {t : Nat} {i : TI} {d : TypeDesc} {inf : TypeInfo} {z k c : Value} (_ : IsTI P t i d inf z) (hk : keyK i.k k = true) (hv : VR ρ k c) : c = k := by
  unfold keyK at hk
  split at hk
  · exact hv
  · exact hv
  · cases hk
theorem keyEq_vr {K0 : K} {k k' c : Value} {q : Bool} (hk : keyK K0 k = true) (hq : keyEq k k' = some q) (hv : VR ρ k' c) : c = k' := by
  unfold keyEq at hq
  split at hq
  · exact hv
  · exact hv
  · cases K0 <;> cases hk
  · cases hq
theorem bytesEq_beq (s s' : ByteArray) : bytesEq s s' = (s == s') := by
  show (s.data.toList == s'.data.toList) = (s.data == s'.data)
  rw [Bool.eq_iff_iff]
  simp [Array.ext_iff]
theorem bytesEq_eq {s s' : ByteArray} (h : bytesEq s s' = true) : s' = s := by
  cases s; cases s'
  simp only [bytesEq, beq_iff_eq, Array.toList_inj] at h
  rw [h]
theorem sameNow_run {t : Nat} {i : TI} {d : TypeDesc} {inf : TypeInfo} {z k k' : Value} {q : Bool} (hti : IsTI P t i d inf z) (hk : keyK i.k k = true) (hq : keyEq k k' = some q) : Instr.sameNow d k k' = some q ∧ (q = true → k' = k) := by
  unfold keyK at hk
  split at hk
  · rename_i kk kk' n hK
    cases kOf_int (hK.symm.trans hti.k)
    cases k' <;> first | (cases hq; done) | skip
    rename_i kb nb
    simp only [keyEq] at hq
    cases hkk : kindEq kk' kb with
    | false => rw [hkk] at hq; cases hq
    | true =>
      rw [hkk] at hq
      cases kindEq_spec hkk
      cases hq
      refine ⟨by simp [Instr.sameNow], fun e => ?_⟩
      rw [eq_of_beq e]
  · rename_i s hK
    cases kOf_str (hK.symm.trans hti.k)
    cases k' <;> first | (cases hq; done) | skip
    rename_i s'
    cases hq
    refine ⟨by simp [Instr.sameNow, bytesEq_beq], fun e => ?_⟩
    rw [bytesEq_eq e]
  · cases hk
theorem findNow_run {t : Nat} {i : TI} {d : TypeDesc} {inf : TypeInfo} {z k : Value} (hti : IsTI P t i d inf z) (hk : keyK i.k k = true) : ∀ {es : List (Value × Value × Nat)} {cs : List MapEntry} {j : Nat} {r : Option (Nat × Value)},
    ER ρ es cs → findA k es j = some r → ∃ r', Instr.findNow d k cs j = some r' ∧
      (match r with | none => r' = none | some (n, v) => ∃ c, r' = some (n, c) ∧ VR ρ v c ∧ j ≤ n ∧ ∃ e, cs[n - j]? = some e ∧ e.key = k)
  | [], cs, j, r, he, hf => by
    cases he
    cases hf
    exact ⟨none, rfl, rfl⟩
  | (k', v, b) :: es, cs, j, r, he, hf => by
    obtain ⟨ck, cv, cl, rfl, h1, h2, h3⟩ := he
    simp only [findA] at hf
    cases hq : keyEq k k' with
    | none => rw [hq] at hf; cases hf
    | some q =>
      rw [hq] at hf
      cases keyEq_vr hk hq h1
      obtain ⟨hs, hs2⟩ := sameNow_run hti hk hq
      cases q with
      | true =>
        cases hf
        exact ⟨some (j, cv), by simp [Instr.findNow, hs], cv, rfl, h2, Nat.le_refl _, ⟨k', cv, b⟩, by simp, hs2 rfl⟩
      | false =>
        simp only at hf
        obtain ⟨r', e1, e2⟩ := findNow_run hti hk h3 hf
        refine ⟨r', by simp [Instr.findNow, hs, e1], ?_⟩
        split at e2
        · exact e2
        · rename_i n v
          obtain ⟨c, a1, a2, a3, e, a4, a5⟩ := e2
          refine ⟨c, a1, a2, by omega, e, ?_, a5⟩
          rw [show n - j = (n - (j + 1)) + 1 by omega]
          simpa using a4
theorem findKey_run {t : Nat} {i : TI} {d : TypeDesc} {inf : TypeInfo} {z k : Value} {cs : List MapEntry} {r' : Option (Nat × Value)} (hti : IsTI P t i d inf z) (hf : Instr.findNow d k cs 0 = some r') :
    (Instr.findKey t k cs).run P w = .ok r' w := by
  simp [Instr.findKey, run_underlying hti.und, hf]
/- keys that are rows of whole numbers -/
def allInt (k : IntKind) : List Value → Bool
  | [] => true
  | .int k' _ :: l => bif kindEq k k' then allInt k l else false
  | _ => false
def arrKey (E : Nat → Option TI) (ki : TI) (k : Value) : Bool :=
  match ki, k with
  | { k := .arr n e, eqok := true, .. }, .agg xs => (match E e with | some { k := .int ik, size := 1, .. } => Nat.beq xs.size n && allInt ik xs.toList | _ => false)
  | _, _ => false
def keyOK (E : Nat → Option TI) (ki : TI) (k : Value) : Bool := bif keyK ki.k k then true else arrKey E ki k
/-- what is asked of a key -/
structure KeySem (P : Program) (kt : Nat) (k : Value) : Prop where
  vr : ∀ (ρ : Ren) (c : Value), VR ρ k c → c = k
  check : ∀ (w : World) (b : Bool), (Instr.checkKey b 10000 kt k).run P w = .ok () w
  stays : ∀ (w : World), (Instr.keyThatStays k k).run P w = .ok k w
  find : ∀ (ρ : Ren) (w : World) (es : List (Value × Value × Nat)) (cs : List MapEntry) (r : Option (Nat × Value)), ER ρ es cs → findA k es 0 = some r → ∃ r', (Instr.findKey kt k cs).run P w = .ok r' w ∧
      (match r with | none => r' = none | some (n, v) => ∃ c, r' = some (n, c) ∧ VR ρ v c ∧ ∃ e, cs[n]? = some e ∧ e.key = k)
theorem allInt_vr {ρ : Ren} {k : IntKind} : ∀ {l c : List Value}, allInt k l = true → VRL ρ l c → c = l
  | [], c, _, h => h
  | x :: l, c, ha, h => by
    obtain ⟨x', c', rfl, h1, h2⟩ := h
    cases x <;> first | (cases ha; done) | skip
    unfold allInt at ha
    rename_i k' n
    cases hk : kindEq k k' with
    | false => rw [hk] at ha; cases ha
    | true =>
      rw [hk] at ha
      rw [VR.int h1, allInt_vr ha h2]
theorem eqCells_true : ∀ {l m : List Value}, eqCells l m = some true → l = m
  | [], m, h => by cases m <;> first | rfl | (simp [eqCells] at h; done)
  | x :: l, m, h => by
    cases m with
    | nil => cases x <;> simp [eqCells] at h
    | cons y m =>
      cases x <;> first | (simp [eqCells] at h; done) | skip
      cases y <;> first | (simp [eqCells] at h; done) | skip
      rename_i k a k' b
      simp only [eqCells] at h
      cases hk : kindEq k k' with
      | false => rw [hk] at h; cases h
      | true =>
        rw [hk] at h
        simp only [cond_true] at h
        cases hab : (a == b) with
        | false => rw [hab] at h; cases h
        | true =>
          rw [hab] at h
          rw [kindEq_spec hk, eq_of_beq hab, eqCells_true h]
theorem KeySem.plain (hE : EnvOK P E) {kt : Nat} {ki : TI} {k : Value} (hi : E kt = some ki) (hk : keyK ki.k k = true) : KeySem P kt k := by
  obtain ⟨d, inf, z, hti⟩ := tiOf_spec (hE _ _ hi)
  refine ⟨fun ρ c hv => VR.key hti hk hv, fun w b => checkKey_run hti hk b, fun w => MapKept.run_keyThatStays (isKey hti hk), fun ρ w es cs r he hf => ?_⟩
  obtain ⟨r', h1, h2⟩ := findNow_run hti hk he hf
  refine ⟨r', findKey_run hti h1, ?_⟩
  cases r with
  | none => exact h2
  | some p => obtain ⟨n, v⟩ := p; obtain ⟨c, a1, a2, _, e, a4, a5⟩ := h2; exact ⟨c, a1, a2, e, by simpa using a4, a5⟩
theorem findAsking_run (hE : EnvOK P E) {kt n e : Nat} {ki : TI} {k : Value} {xs : Array Value} {ik : IntKind} (hi : E kt = some ki) (hkk : ki.k = .arr n e) (hq : ki.eqok = true) {ei : TI} (hei : E e = some ei) (heik : ei.k = .int ik) (hes : ei.size = 1)
    (hk : k = .agg xs) (hsz : xs.size = n) (hal : allInt ik xs.toList = true) {ρ : Ren} {w : World} : ∀ {es : List (Value × Value × Nat)} {cs : List MapEntry} {j : Nat} {r : Option (Nat × Value)}, ER ρ es cs → findA k es j = some r →
    ∃ r', (Instr.findAsking kt k cs j).run P w = .ok r' w ∧ (match r with | none => r' = none | some (n, v) => ∃ c, r' = some (n, c) ∧ VR ρ v c ∧ j ≤ n ∧ ∃ e, cs[n - j]? = some e ∧ e.key = k)
  | [], cs, j, r, he, hf => by
    cases he
    cases hf
    exact ⟨none, rfl, rfl⟩
  | (k', v, b) :: es, cs, j, r, he, hf => by
    obtain ⟨ck, cv, cl, rfl, h1, h2, h3⟩ := he
    simp only [findA] at hf
    subst hk
    cases hkq : keyEq (.agg xs) k' with
    | none => rw [hkq] at hf; cases hf
    | some q =>
      rw [hkq] at hf
      cases k' <;> first | (cases hkq; done) | skip
      rename_i ys
      simp only [keyEq] at hkq
      cases hs : Nat.beq xs.size ys.size with
      | false => rw [hs] at hkq; cases hkq
      | true =>
        rw [hs] at hkq
        simp only [cond_true] at hkq
        have hys : ys.size = n := by rw [← Nat.eq_of_beq_eq_true hs]; exact hsz
        have hxv : VR ρ (.agg xs) (.agg xs) := by
          have hint : ∀ l : List Value, allInt ik l = true → VRL ρ l l := fun l => by
            induction l with
            | nil => intro _; rfl
            | cons x l ih =>
              intro hx
              cases x <;> first | (cases hx; done) | skip
              unfold allInt at hx
              rename_i k2 n2
              cases hk2 : kindEq ik k2 with
              | false => rw [hk2] at hx; cases hx
              | true => rw [hk2] at hx; exact ⟨_, _, rfl, rfl, ih hx⟩
          exact ⟨xs, rfl, VRA.iff.2 (hint _ hal)⟩
        have heq : equalA E kt (.agg xs) (.agg ys) = some q := by
          obtain ⟨kk, s1, b1, z1, q1⟩ := ki
          obtain ⟨kk2, s2, b2, z2, q2⟩ := ei
          simp only at hkk hq heik hes
          subst hkk hq heik hes
          simp only [equalA, hi, hei]
          have e1 : Nat.beq xs.size n = true := by rw [hsz]; simp
          have e2 : Nat.beq ys.size n = true := by rw [hys]; simp
          rw [e1, e2]
          exact hkq
        have hrun := equalA_sound (w := w) hE hxv h1 heq
        cases q with
        | true =>
          cases hf
          have hxy := eqCells_true hkq
          obtain ⟨c', hc1, hc2⟩ := h1
          have hc3 := allInt_vr (by rw [← hxy]; exact hal) (VRA.iff.1 hc2)
          have hck : ck = .agg xs := by
            rw [hc1]
            congr 1
            apply Array.ext'
            rw [hc3, hxy]
          exact ⟨some (j, cv), by simp [Instr.findAsking, hrun], cv, rfl, h2, Nat.le_refl _, ⟨ck, cv, b⟩, by simp, hck⟩
        | false =>
          simp only at hf
          obtain ⟨r', e1, e2⟩ := findAsking_run hE hi hkk hq hei heik hes rfl hsz hal (w := w) h3 hf
          refine ⟨r', by simp [Instr.findAsking, hrun, e1], ?_⟩
          split at e2
          · exact e2
          · rename_i n v
            obtain ⟨c, a1, a2, a3, e, a4, a5⟩ := e2
            refine ⟨c, a1, a2, by omega, e, ?_, a5⟩
            rw [show n - j = (n - (j + 1)) + 1 by omega]
            simpa using a4
theorem KeySem.arr (hE : EnvOK P E) {kt : Nat} {ki : TI} {k : Value} (hi : E kt = some ki) (hk : arrKey E ki k = true) : KeySem P kt k := by
  unfold arrKey at hk
  split at hk
  · rename_i n e s1 b1 z1 xs
    split at hk
    · rename_i ik b2 z2 q2 hei
      simp only [Bool.and_eq_true, Nat.beq_eq] at hk
      obtain ⟨hsz, hal⟩ := hk
      obtain ⟨d, inf, z, hti⟩ := tiOf_spec (hE _ _ hi)
      obtain ⟨d2, inf2, z2, hti2⟩ := tiOf_spec (hE _ _ hei)
      have hd := kOf_arr hti.k
      have hd2 := kOf_int hti2.k
      subst hd hd2
      have hint : ∀ (l : List Value) (i : Nat) (v : Value), allInt ik l = true → l[i]? = some v → ∃ m, v = .int ik m := fun l => by
        induction l with
        | nil => intro i v _ hv; simp at hv
        | cons x l ih =>
          intro i v hx hv
          cases x <;> first | (cases hx; done) | skip
          unfold allInt at hx
          rename_i k2 n2
          cases hk2 : kindEq ik k2 with
          | false => rw [hk2] at hx; cases hx
          | true =>
            rw [hk2] at hx
            cases i with
            | zero => simp at hv; exact ⟨n2, by rw [← hv, kindEq_spec hk2]⟩
            | succ i => exact ih i v hx (by simpa using hv)
      refine ⟨fun ρ c hv => ?_, fun w b => ?_, fun w => ?_, fun ρ w es cs r he hf => ?_⟩
      · obtain ⟨c', rfl, h2⟩ := hv
        congr 1
        apply Array.ext'
        exact allInt_vr hal (VRA.iff.1 h2)
      · show (Instr.checkKey b (9999 + 1) kt (.agg xs)).run P w = .ok () w
        rw [Instr.checkKey]
        simp only [Sem.run_bind, run_underlying hti.und, Result.andThen_ok]
        simp only [Std.Legacy.Range.forIn_eq_forIn_range', Std.Legacy.Range.size, Nat.sub_zero, Nat.add_one_sub_one, Nat.div_one]
        have hin : ∀ i ∈ List.range' 0 n, i < n := fun i hi => by have := List.mem_range'.1 hi; omega
        generalize List.range' 0 n = is at hin
        induction is with
        | nil => simp
        | cons j is ih =>
          have hj := hin j (by simp)
          have hg : ∃ v, xs[j]? = some v := ⟨xs[j]'(by omega), by simp⟩
          obtain ⟨v, hv⟩ := hg
          obtain ⟨m, rfl⟩ := hint xs.toList j v hal (by simpa using hv)
          have hsz2 : inf2.size = 1 := hti2.size.symm
          have hp : (part e xs (j * 1)).run P w = .ok (.int ik m) w := by
            simp [part, isAgg_run hti2, isAggK, hv]
          have hck : (Instr.checkKey b 9999 e (.int ik m)).run P w = .ok () w := MapKept.run_checkKey (k := .int ik m) hti2.und rfl b 9998
          simp only [List.forIn_cons, Sem.run_bind, sizeOf_run hti2, Result.andThen_ok, hp, hck, Sem.run_pure]
          exact ih (fun y hy => hin y (by simp [hy]))
      · have hsame : ∀ l : List Value, allInt ik l = true → ((l.zip l).all fun (x, y) => Instr.sameBits 9999 x y) = true := fun l => by
          induction l with
          | nil => intro _; rfl
          | cons x l ih =>
            intro hx
            cases x <;> first | (cases hx; done) | skip
            unfold allInt at hx
            rename_i k2 n2
            cases hk2 : kindEq ik k2 with
            | false => rw [hk2] at hx; cases hx
            | true =>
              rw [hk2] at hx
              simp only [List.zip_cons_cons, List.all_cons, ih hx, Bool.and_true]
              simp [Instr.sameBits]
        have : Instr.sameBits 10000 (.agg xs) (.agg xs) = true := by
          show Instr.sameBits (9999 + 1) (.agg xs) (.agg xs) = true
          rw [Instr.sameBits, hsame _ hal]
          simp
        simp [Instr.keyThatStays, this]
      · cases cs with
        | nil =>
          cases es with
          | nil => cases hf; exact ⟨none, by simp [Instr.findKey, run_underlying hti.und, Instr.findNow], rfl⟩
          | cons x es => obtain ⟨k', v, b⟩ := x; obtain ⟨_, _, _, e, _⟩ := he; cases e
        | cons c cs =>
          obtain ⟨r', h1, h2⟩ := findAsking_run hE hi rfl rfl hei rfl rfl rfl hsz hal (w := w) he hf
          refine ⟨r', by simp [Instr.findKey, run_underlying hti.und, Instr.findNow, Instr.sameNow, h1], ?_⟩
          cases r with
          | none => exact h2
          | some p => obtain ⟨n, v⟩ := p; obtain ⟨c, a1, a2, _, e, a4, a5⟩ := h2; exact ⟨c, a1, a2, e, by simpa using a4, a5⟩
    · cases hk
  · cases hk
theorem KeySem.of (hE : EnvOK P E) {kt : Nat} {ki : TI} {k : Value} (hi : E kt = some ki) (hk : keyOK E ki k = true) : KeySem P kt k := by
  unfold keyOK at hk
  cases h : keyK ki.k k with
  | true => exact KeySem.plain hE hi h
  | false => rw [h] at hk; exact KeySem.arr hE hi hk
def makeMapA (r : Option Value) (nid : Nat) : Option (Value × HE) :=
  match r with
  | none => some (.map (some nid), .new (.map [] 0))
  | some _ => none
theorem makeMapA_sound (H : HR P ρ h w) {t nid : Nat} {x c : Option Value} {r : Value} {e : HE} (hx : VRO ρ x c) (hr : makeMapA x nid = some (r, e)) (hn : h.get nid = none) {B : Nat} (hB : B ≤ nid) :
    ∃ ρ' u w', (Instr.makeMap t c).run P w = .ok u w' ∧ VR ρ' r u ∧ HR P ρ' (e.app nid h) w' ∧ Fr B ρ h w ρ' (e.app nid h) w' := by
  unfold makeMapA at hr
  split at hr
  · cases hx
    cases hr
    refine ⟨ρ.put nid ⟨w.heap.size, 0, 0⟩, .map (some w.heap.size), w.alloc (.map #[] 0), by simp [Instr.makeMap], ⟨⟨w.heap.size, 0, 0⟩, by simp [Ren.put], rfl⟩,
      H.new hn _ _ _ ⟨#[], heap_alloc_new w _, rfl⟩, Fr.new H hn hB _ _ _⟩
  · cases hr
/-- the entries of a map -/
def entsA (get : Nat → Option AObj) (x : Value) : Option (List (Value × Value × Nat)) :=
  match x with
  | .map none => some []
  | .map (some r) => (match get r with | some (.map es _) => some es | _ => none)
  | _ => none
def lookupA (E : Nat → Option TI) (get : Nat → Option AObj) (t : Nat) (x k : Value) (ok : Bool) : Option Value :=
  match E t with
  | some { k := .map kt et, .. } =>
    (match E kt, E et with
    | some ki, some ei =>
      bif keyOK E ki k then
        match entsA get x with
        | some es =>
          (match findA k es 0 with
          | some (some (_, v)) => some (bif ok then .tuple #[v, .bool true] else v)
          | some none => (match pk ei.k ei.zero with | some z => some (bif ok then .tuple #[z, .bool false] else z) | none => none)
          | none => none)
        | none => none
      else none
    | _, _ => none)
  | _ => none
theorem HR.map (H : HR P ρ h w) {i : Nat} {es : List (Value × Value × Nat)} {clock : Nat} (hi : h.get i = some (.map es clock)) :
    ∃ l cs, ρ i = some l ∧ w.heap[l.blk]? = some (.map cs clock) ∧ ER ρ es cs.toList := by
  obtain ⟨l, h1, cs, h2, h3⟩ := H.live i _ hi
  exact ⟨l, cs, h1, h2, h3⟩
theorem lookupA_sound (hE : EnvOK P E) (H : HR P ρ h w) {t : Nat} {x k cx ck r : Value} {ok : Bool} (hx : VR ρ x cx) (hk : VR ρ k ck) (hr : lookupA E h.get t x k ok = some r) :
    ∃ u, (Instr.lookup t cx ck ok).run P w = .ok u w ∧ VR ρ r u := by
  unfold lookupA at hr
  split at hr
  · rename_i kt et s b z0 q hi
    obtain ⟨d, inf, z, hti⟩ := tiOf_spec (hE _ _ hi)
    have := kOf_map hti.k
    subst this
    split at hr
    · rename_i ki ei hki hei
      obtain ⟨ed, einf, ez, heti⟩ := tiOf_spec (hE _ _ hei)
      cases hkk : keyOK E ki k with
      | false => rw [hkk] at hr; cases hr
      | true =>
        rw [hkk] at hr
        simp only [cond_true] at hr
        have KS := KeySem.of hE hki hkk
        have hck := KS.vr _ _ hk
        subst hck
        split at hr
        · rename_i es hes
          have hents : ∃ cs : Array MapEntry, ER ρ es cs.toList ∧ (Instr.lookup t cx ck ok).run P w = ((do
              Instr.checkKey cs.isEmpty 10000 kt ck
              let (v, ok') ← match ← Instr.findKey kt ck cs.toList with
                | some (_, v) => pure (v, true)
                | none => pure (← zeroValue et, false)
              pure (if ok then .tuple #[v, .bool ok'] else v) : Sem Value)).run P w := by
            unfold entsA at hes
            split at hes
            · cases hes
              rw [hx]
              exact ⟨#[], rfl, by simp [Instr.lookup, run_underlying hti.und]; rfl⟩
            · split at hes
              · rename_i hg
                cases hes
                obtain ⟨l, hl, rfl⟩ := hx
                obtain ⟨l', cs, h1, h2, h3⟩ := H.map hg
                rw [hl] at h1; cases h1
                exact ⟨cs, h3, by simp [Instr.lookup, run_underlying hti.und, MapKept.run_getObj_map h2]; rfl⟩
              · cases hes
            · cases hes
          obtain ⟨cs, hER, hrun⟩ := hents
          rw [hrun]
          split at hr
          · rename_i n v hf
            cases hr
            obtain ⟨r', e1, c, rfl, hv, _⟩ := KS.find ρ w _ _ _ hER hf
            simp only [Sem.run_bind, KS.check, e1, Result.andThen_ok, Sem.run_pure]
            cases ok with
            | true => exact ⟨_, rfl, _, rfl, VRA.iff.2 ⟨_, _, rfl, hv, _, _, rfl, rfl, rfl⟩⟩
            | false => exact ⟨_, rfl, hv⟩
          · rename_i hf
            obtain ⟨r', e1, rfl⟩ := KS.find ρ w _ _ _ hER hf
            split at hr
            · rename_i zz hz
              cases hr
              simp only [Sem.run_bind, KS.check, e1, zero_run heti, Result.andThen_ok, Sem.run_pure]
              have hzv : VR ρ zz ez := pk_zero heti hz
              cases ok with
              | true => exact ⟨_, rfl, _, rfl, VRA.iff.2 ⟨_, _, rfl, hzv, _, _, rfl, rfl, rfl⟩⟩
              | false => exact ⟨_, rfl, hzv⟩
            · cases hr
          · cases hr
        · cases hr
    · cases hr
  · cases hr
end
end Go.Ab
/- Maps written and ranged over; lengths; the least and the greatest; copies; functions made. -/
namespace Go.Ab
open Go.RowKit
section
variable {P : Program} {ρ : Ren} {h : Hp} {w : World} {E : Nat → Option TI}
/- entries -/
theorem ER.length : ∀ {es : List (Value × Value × Nat)} {l : List MapEntry}, ER ρ es l → es.length = l.length
  | [], _, h => by cases h; rfl
  | (k, v, b) :: es, _, h => by obtain ⟨k', v', l', rfl, _, _, h⟩ := h; simp [ER.length h]
theorem ER.push : ∀ {es : List (Value × Value × Nat)} {l : List MapEntry} {k v k' v' : Value} {b : Nat}, ER ρ es l → VR ρ k k' → VR ρ v v' → ER ρ (es ++ [(k, v, b)]) (l ++ [⟨k', v', b⟩])
  | [], _, _, _, _, _, _, h, h1, h2 => by cases h; exact ⟨_, _, _, rfl, h1, h2, rfl⟩
  | (k, v, b) :: es, _, _, _, _, _, _, h, h1, h2 => by obtain ⟨k', v', l', rfl, a, b, h⟩ := h; exact ⟨_, _, _, rfl, a, b, ER.push h h1 h2⟩
/-- the entry at a place told anew -/
def setEnt (k v : Value) : List (Value × Value × Nat) → Nat → List (Value × Value × Nat)
  | [], _ => []
  | (_, _, b) :: es, 0 => (k, v, b) :: es
  | e :: es, n + 1 => e :: setEnt k v es n
theorem ER.setEnt : ∀ {es : List (Value × Value × Nat)} {l : List MapEntry} {k v k' v' : Value} {n : Nat}, ER ρ es l → VR ρ k k' → VR ρ v v' → ER ρ (setEnt k v es n) (l.modify n fun e => { e with key := k', val := v' })
  | [], _, _, _, _, _, n, h, _, _ => by cases h; cases n <;> exact rfl
  | (k, v, b) :: es, _, _, _, _, _, 0, h, h1, h2 => by obtain ⟨k', v', l', rfl, a, c, h⟩ := h; exact ⟨_, _, _, rfl, h1, h2, h⟩
  | (k, v, b) :: es, _, _, _, _, _, n + 1, h, h1, h2 => by obtain ⟨k', v', l', rfl, a, c, h⟩ := h; exact ⟨_, _, _, rfl, a, c, ER.setEnt h h1 h2⟩
theorem ER.get : ∀ {es : List (Value × Value × Nat)} {l : List MapEntry}, ER ρ es l → ∀ (i : Nat) (e : MapEntry), l[i]? = some e → ∃ k v, es[i]? = some (k, v, e.born) ∧ VR ρ k e.key ∧ VR ρ v e.val
  | [], _, h, i, e, hi => by cases h; simp at hi
  | (k, v, b) :: es, _, h, i, e, hi => by
    obtain ⟨k', v', l', rfl, a, c, h⟩ := h
    cases i with
    | zero => simp at hi; subst hi; exact ⟨k, v, by simp, a, c⟩
    | succ i => simp at hi; obtain ⟨k2, v2, h1, h2⟩ := ER.get h i e hi; exact ⟨k2, v2, by simpa using h1, h2⟩
/-- a block's object put in its place -/
theorem put_obj (H : HR P ρ h w) {i : Nat} {o o' : AObj} {ob ob' : Obj} {l : Loc} (hi : h.get i = some o) (hw : o.wr = true) (hl : ρ i = some l) (hob : w.heap[l.blk]? = some ob)
    (ho : OR ρ { w with heap := w.heap.setIfInBounds l.blk ob' } l o') (B : Nat) :
    HR P ρ (h.set i o') { w with heap := w.heap.setIfInBounds l.blk ob' } ∧ Fr B ρ h w ρ (h.set i o') { w with heap := w.heap.setIfInBounds l.blk ob' } :=
  ⟨H.put hi hw hl _ (by simp) (fun b hb => (MapKept.heap_set (o' := ob') hob).2 b hb) ho, Fr.put hi hw hl _ rfl rfl rfl (by simp) (fun b hb => (MapKept.heap_set (o' := ob') hob).2 b hb)⟩
def updA (E : Nat → Option TI) (get : Nat → Option AObj) (t : Nat) (x k v : Value) : Option HE :=
  match E t, x with
  | some { k := .map kt _, .. }, .map (some r) =>
    (match E kt, get r with
    | some ki, some (.map es clock) =>
      bif keyOK E ki k then
        match findA k es 0 with
        | some (some (n, _)) => some (.put r (.map (setEnt k v es n) clock))
        | some none => some (.put r (.map (es ++ [(k, v, clock)]) (clock + 1)))
        | none => none
      else none
    | _, _ => none)
  | _, _ => none
theorem updA_sound (hE : EnvOK P E) (H : HR P ρ h w) {t : Nat} {x k v cx ck cv : Value} {e : HE} (hx : VR ρ x cx) (hk : VR ρ k ck) (hv : VR ρ v cv) (hr : updA E h.get t x k v = some e) (nid B : Nat) :
    ∃ w', (Instr.mapUpdate t cx ck cv).run P w = .ok () w' ∧ HR P ρ (e.app nid h) w' ∧ Fr B ρ h w ρ (e.app nid h) w' := by
  unfold updA at hr
  split at hr
  · rename_i kt et s b z0 q r hi
    obtain ⟨d, inf, z, hti⟩ := tiOf_spec (hE _ _ hi)
    have := kOf_map hti.k
    subst this
    split at hr
    · rename_i ki es clock hki hg
      cases hkk : keyOK E ki k with
      | false => rw [hkk] at hr; cases hr
      | true =>
        rw [hkk] at hr
        simp only [cond_true] at hr
        have KS := KeySem.of hE hki hkk
        have hck := KS.vr _ _ hk
        subst hck
        obtain ⟨l, hl, rfl⟩ := hx
        obtain ⟨l', cs, h1, h2, h3⟩ := H.map hg
        rw [hl] at h1; cases h1
        split at hr
        · rename_i n u hf
          cases hr
          obtain ⟨r', e1, c, rfl, _, en, e2, e3⟩ := KS.find ρ w _ _ _ h3 hf
          have hen : cs[n]? = some en := by simpa using e2
          have hst := KS.stays w
          obtain ⟨g1, g2⟩ := put_obj (o' := .map (setEnt ck v es n) clock) (ob' := .map (cs.modify n fun e => { e with key := ck, val := cv }) clock) H hg rfl hl h2
            ⟨_, (MapKept.heap_set h2).1, by rw [Array.toList_modify]; exact ER.setEnt h3 hk hv⟩ B
          refine ⟨_, ?_, g1, g2⟩
          simp [Instr.mapUpdate, run_underlying hti.und, MapKept.run_getObj_map h2, KS.check, e1, hen, e3, hst, MapKept.run_setObj_map _ h2]
        · rename_i hf
          cases hr
          obtain ⟨r', e1, rfl⟩ := KS.find ρ w _ _ _ h3 hf
          obtain ⟨g1, g2⟩ := put_obj (o' := .map (es ++ [(ck, v, clock)]) (clock + 1)) (ob' := .map (cs.push { key := ck, val := cv, born := clock }) (clock + 1)) H hg rfl hl h2
            ⟨_, (MapKept.heap_set h2).1, by simpa using ER.push h3 hk hv⟩ B
          refine ⟨_, ?_, g1, g2⟩
          simp [Instr.mapUpdate, run_underlying hti.und, MapKept.run_getObj_map h2, KS.check, e1, MapKept.run_setObj_map _ h2]
        · cases hr
    · cases hr
  · cases hr
def rangeA (E : Nat → Option TI) (get : Nat → Option AObj) (t : Nat) (x : Value) (nid : Nat) : Option (Value × HE) :=
  match E t, x with
  | some { k := .str, .. }, .string s => some (.pointer (some ⟨nid, 0, none⟩), .new (.siter s 0))
  | some { k := .map _ _, .. }, .map none => some (.pointer (some ⟨nid, 0, none⟩), .new (.iter none 0 [] 0))
  | some { k := .map _ _, .. }, .map (some r) => (match get r with | some (.map _ clock) => some (.pointer (some ⟨nid, 0, none⟩), .new (.iter (some r) clock [] clock)) | _ => none)
  | _, _ => none
theorem rangeA_sound (hE : EnvOK P E) (H : HR P ρ h w) {t nid : Nat} {x c r : Value} {e : HE} (hx : VR ρ x c) (hr : rangeA E h.get t x nid = some (r, e)) (hn : h.get nid = none) {B : Nat} (hB : B ≤ nid) :
    ∃ ρ' u w', (Instr.range t c).run P w = .ok u w' ∧ VR ρ' r u ∧ HR P ρ' (e.app nid h) w' ∧ Fr B ρ h w ρ' (e.app nid h) w' := by
  unfold rangeA at hr
  split at hr
  · rename_i hi
    obtain ⟨d, inf, z, hti⟩ := tiOf_spec (hE _ _ hi)
    cases kOf_str hti.k
    cases hx
    cases hr
    refine ⟨ρ.put nid ⟨w.heap.size, 0, 0⟩, _, _, by simp [Instr.range, run_underlying hti.und], VR.ptr, H.new hn _ _ _ ⟨rfl, heap_alloc_new w _⟩, Fr.new H hn hB _ _ _⟩
  · rename_i hi
    obtain ⟨d, inf, z, hti⟩ := tiOf_spec (hE _ _ hi)
    cases kOf_map hti.k
    cases hx
    cases hr
    refine ⟨ρ.put nid ⟨w.heap.size, 0, 0⟩, _, _, by simp [Instr.range, run_underlying hti.und], VR.ptr, H.new hn _ _ _ ⟨rfl, none, heap_alloc_new w _, rfl⟩, Fr.new H hn hB _ _ _⟩
  · rename_i m hi
    obtain ⟨d, inf, z, hti⟩ := tiOf_spec (hE _ _ hi)
    cases kOf_map hti.k
    split at hr
    · rename_i es clock hg
      cases hr
      obtain ⟨l, hl, rfl⟩ := hx
      obtain ⟨l', cs, h1, h2, h3⟩ := H.map hg
      rw [hl] at h1; cases h1
      refine ⟨ρ.put nid ⟨w.heap.size, 0, 0⟩, _, _, by simp [Instr.range, run_underlying hti.und, MapKept.run_getObj_map h2], VR.ptr, H.new hn _ _ _ ⟨rfl, some l.blk, heap_alloc_new w _, l, hl, rfl⟩, Fr.new H hn hB _ _ _⟩
    · cases hr
  · cases hr
/-- the length of a value -/
def lenA (E : Nat → Option TI) (get : Nat → Option AObj) (t : Nat) (x : Value) : Option Value :=
  match E t with
  | some { k := .str, .. } => (match x with | .string s => some (goInt s.size) | _ => none)
  | some { k := .arr n _, .. } => some (goInt n)
  | some { k := .ptr a, .. } => (match E a with | some { k := .arr n _, .. } => some (goInt n) | _ => none)
  | some { k := .sl _, .. } => (match x with | .slice _ n _ => some (goInt n) | _ => none)
  | some { k := .map _ _, .. } => (match entsA get x with | some es => some (goInt es.length) | none => none)
  | _ => none
theorem VR.slice_len {a : Option Addr} {n k : Nat} {c : Value} (h : VR ρ (.slice a n k) c) : ∃ a' k', c = .slice a' n k' := by
  cases a with
  | none => exact ⟨_, _, h⟩
  | some a =>
    obtain ⟨l, _, _, h3⟩ := h
    rcases h3 with ⟨k', rfl, _⟩ | ⟨rfl, _, o', rfl⟩
    · exact ⟨_, _, rfl⟩
    · exact ⟨_, _, rfl⟩
theorem lenA_sound (hE : EnvOK P E) (H : HR P ρ h w) {t ty : Nat} {ts : Array Nat} {x c r : Value} (ht : ts[0]? = some t) (hx : VR ρ x c) (hr : lenA E h.get t x = some r) :
    (Builtin.len_ ts ty #[c]).run P w = .ok r w ∧ VR ρ r r := by
  unfold lenA at hr
  split at hr
  · rename_i hi
    obtain ⟨d, inf, z, hti⟩ := tiOf_spec (hE _ _ hi)
    cases kOf_str hti.k
    split at hr
    · cases hr
      cases hx
      exact ⟨by simp [Builtin.len_, ht, run_underlying hti.und], rfl⟩
    · cases hr
  · rename_i hi
    obtain ⟨d, inf, z, hti⟩ := tiOf_spec (hE _ _ hi)
    cases kOf_arr hti.k
    cases hr
    exact ⟨by simp [Builtin.len_, ht, run_underlying hti.und], rfl⟩
  · rename_i hi
    obtain ⟨d, inf, z, hti⟩ := tiOf_spec (hE _ _ hi)
    cases kOf_ptr hti.k
    split at hr
    · rename_i hi2
      obtain ⟨d2, inf2, z2, hti2⟩ := tiOf_spec (hE _ _ hi2)
      cases kOf_arr hti2.k
      cases hr
      exact ⟨by simp [Builtin.len_, ht, run_underlying hti.und, run_underlying hti2.und], rfl⟩
    · cases hr
  · rename_i hi
    obtain ⟨d, inf, z, hti⟩ := tiOf_spec (hE _ _ hi)
    cases kOf_sl hti.k
    split at hr
    · cases hr
      obtain ⟨a', k', rfl⟩ := hx.slice_len
      exact ⟨by simp [Builtin.len_, ht, run_underlying hti.und], rfl⟩
    · cases hr
  · rename_i hi
    obtain ⟨d, inf, z, hti⟩ := tiOf_spec (hE _ _ hi)
    cases kOf_map hti.k
    split at hr
    · rename_i es hes
      cases hr
      unfold entsA at hes
      split at hes
      · cases hes
        cases hx
        exact ⟨by simp [Builtin.len_, ht, run_underlying hti.und], rfl⟩
      · split at hes
        · rename_i hg
          cases hes
          obtain ⟨l, hl, rfl⟩ := hx
          obtain ⟨l', cs, h1, h2, h3⟩ := H.map hg
          rw [hl] at h1; cases h1
          have hlen := h3.length
          exact ⟨by simp [Builtin.len_, ht, run_underlying hti.und, MapKept.run_getObj_map h2, hlen], rfl⟩
        · cases hes
      · cases hes
    · cases hr
  · cases hr
def capA (E : Nat → Option TI) (t : Nat) (x : Value) : Option Value :=
  match E t with
  | some { k := .arr n _, .. } => some (goInt n)
  | some { k := .sl _, .. } => (match x with | .slice none 0 0 => some (goInt 0) | .slice (some _) (_ + 1) k => bif unk k then none else some (goInt k) | _ => none)
  | _ => none
theorem capA_sound (hE : EnvOK P E) {t ty : Nat} {ts : Array Nat} {x c r : Value} (ht : ts[0]? = some t) (hx : VR ρ x c) (hr : capA E t x = some r) :
    (Builtin.cap_ ts ty #[c]).run P w = .ok r w ∧ VR ρ r r := by
  unfold capA at hr
  split at hr
  · rename_i hi
    obtain ⟨d, inf, z, hti⟩ := tiOf_spec (hE _ _ hi)
    cases kOf_arr hti.k
    cases hr
    exact ⟨by simp [Builtin.cap_, ht, run_underlying hti.und], rfl⟩
  · rename_i hi
    obtain ⟨d, inf, z, hti⟩ := tiOf_spec (hE _ _ hi)
    cases kOf_sl hti.k
    split at hr
    · cases hr
      cases hx
      exact ⟨by simp [Builtin.cap_, ht, run_underlying hti.und], rfl⟩
    · rename_i k
      cases hu : unk k with
      | true => rw [hu] at hr; cases hr
      | false =>
        rw [hu] at hr
        cases hr
        obtain ⟨l, _, _, h3⟩ := hx
        rcases h3 with ⟨k', rfl, _, _, h6⟩ | ⟨h0, _⟩
        · have hk : k < U := by
            unfold unk at hu
            have := Nat.ble_eq (x := U) (y := k)
            rw [hu] at this
            simp at this
            exact this
          rw [h6 hk]
          exact ⟨by simp [Builtin.cap_, ht, run_underlying hti.und], rfl⟩
        · cases h0
    · cases hr
  · cases hr
/-- the least, the greatest of whole numbers of one kind -/
def foldA (mx : Bool) (k : IntKind) (m : Int) : List Value → Option Int
  | [] => some m
  | .int k' n :: l => bif kindEq k k' then foldA mx k (bif mx then (bif decide (m < n) then n else m) else (bif decide (n < m) then n else m)) l else none
  | _ => none
def minmaxA (mx : Bool) : List Value → Option Value
  | .int k n :: l => (match foldA mx k n l with | some m => some (.int k m) | none => none)
  | _ => none
theorem foldA_run {mx : Bool} {k : IntKind} : ∀ {l c : List Value} {m n : Int}, VRL ρ l c → foldA mx k m l = some n → (c.foldlM (bif mx then Builtin.max2 else Builtin.min2) (.int k m)).run P w = .ok (.int k n) w
  | [], c, m, n, hv, hr => by
    cases hv
    cases hr
    simp
  | x :: l, c, m, n, hv, hr => by
    obtain ⟨x', c', rfl, h1, h2⟩ := hv
    cases x <;> first | (cases hr; done) | skip
    rename_i k' y
    cases h1
    simp only [foldA] at hr
    cases hk : kindEq k k' with
    | false => rw [hk] at hr; cases hr
    | true =>
      rw [hk] at hr
      cases kindEq_spec hk
      have ih := foldA_run h2 hr
      cases mx with
      | true =>
        simp only [cond_true] at ih ⊢
        simp only [List.foldlM_cons, Builtin.max2, Sem.run_bind, Sem.run_pure, Result.andThen_ok]
        rw [← ih]
        by_cases hlt : m < y <;> simp [hlt]
      | false =>
        simp only [cond_false] at ih ⊢
        simp only [List.foldlM_cons, Builtin.min2, Sem.run_bind, Sem.run_pure, Result.andThen_ok]
        rw [← ih]
        by_cases hlt : y < m <;> simp [hlt]
theorem minA_sound {ts : Array Nat} {ty : Nat} {l : List Value} {c : Array Value} {r : Value} (hv : VRL ρ l c.toList) (hr : minmaxA false l = some r) : (Builtin.min_ ts ty c).run P w = .ok r w ∧ VR ρ r r := by
  cases l with
  | nil => cases hr
  | cons x l =>
    obtain ⟨x', c', hc, h1, h2⟩ := hv
    cases x <;> first | (cases hr; done) | skip
    cases h1
    simp only [minmaxA] at hr
    split at hr
    · rename_i hf
      cases hr
      simp only [Builtin.min_, hc]
      exact ⟨foldA_run h2 hf, rfl⟩
    · cases hr
theorem maxA_sound {ts : Array Nat} {ty : Nat} {l : List Value} {c : Array Value} {r : Value} (hv : VRL ρ l c.toList) (hr : minmaxA true l = some r) : (Builtin.max_ ts ty c).run P w = .ok r w ∧ VR ρ r r := by
  cases l with
  | nil => cases hr
  | cons x l =>
    obtain ⟨x', c', hc, h1, h2⟩ := hv
    cases x <;> first | (cases hr; done) | skip
    cases h1
    simp only [minmaxA] at hr
    split at hr
    · rename_i hf
      cases hr
      simp only [Builtin.max_, hc]
      exact ⟨foldA_run h2 hf, rfl⟩
    · cases hr
end
end Go.Ab
