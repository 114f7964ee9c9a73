/- A part of the proof of a law over a given program: L0, BS, Way, T1, T2. -/
import Derived.Test.YtckgcmgnpblnaaaGreatDoorT12
import Derived.Test.YtckgcmgnpblnaaaGreatDoorT13
set_option linter.unusedVariables false
set_option linter.unusedSimpArgs false
namespace Go.Ab
open Go.Proofs
theorem good : Good Tryz.prog 4 := ⟨by decide, by kernel_rfl⟩
set_option maxRecDepth 10000
/-- a fact that simp is not to use -/
structure Hid (p : Prop) : Prop where
  out : p
theorem en {f : Nat} (h : (match Tryz.prog.funcs[f]? with | some fn => (match fn.body with | some _ => !(fn.name == "runtime.NumGoroutine") | none => false) | none => false) = true) : Enters Tryz.prog f := isSome_enters h
/-- a function that only computes: its result -/
theorem fades_same {P : Program} {h : Hp} (En : Entry P h) (L : List (Nat × AObj)) (k : Nat) : Fades P h.next (tau h []) (ov h [] L k) h := by
  have := fades_ov (U := []) (U' := []) (L := L) (L' := []) (k := k) (k' := 0) En [] trivial trivial trivial rfl
  rw [ov_self En.lt] at this
  exact this
theorem flatFV {R : Nat → Nat → Prop} {v : Value} (h : flat v = true) : FV R v v := by
  cases v with
  | int k n => rfl
  | bool b => rfl
  | string s => rfl
  | float k b => rfl
  | complex k a b => rfl
  | pointer a => cases a with | none => rfl | some a => cases h
  | slice a n c => cases a with | none => rfl | some a => cases h
  | map r => cases r with | none => rfl | some a => cases h
  | nilFunc => rfl
  | nilIface => rfl
  | chan r => cases r with | none => rfl | some a => cases h
  | func f x y => cases h
  | iface t v => cases h
  | agg cs => cases h
  | tuple cs => cases h
theorem flatsFV {R : Nat → Nat → Prop} : ∀ {l : List Value}, flats l = true → FVL R l l
  | [], _ => rfl
  | v :: l, h => by
    unfold flats at h
    cases hv : flat v with
    | false => rw [hv] at h; cases h
    | true => rw [hv] at h; exact ⟨v, l, rfl, flatFV hv, flatsFV h⟩
theorem intsFVL {R : Nat → Nat → Prop} : ∀ (l : List Int), FVL R (Ab.ints l) (Ab.ints l)
  | [] => rfl
  | _ :: l => ⟨_, _, rfl, rfl, intsFVL l⟩
/-- a value without a place -/
def plainV : Value → Bool
  | .tuple ⟨l⟩ => allB1 l
  | .agg ⟨l⟩ => flats l
  | v => flat v
where allB1 : List Value → Bool
  | [] => true
  | .agg ⟨l⟩ :: r => flats l && allB1 r
  | v :: r => flat v && allB1 r
theorem plainFV1 {R : Nat → Nat → Prop} : ∀ {l : List Value}, plainV.allB1 l = true → FVL R l l
  | [], _ => rfl
  | v :: r, h => by
    cases v with
    | agg x =>
      obtain ⟨l⟩ := x
      simp only [plainV.allB1, Bool.and_eq_true] at h
      exact ⟨_, r, rfl, ⟨_, rfl, flatsFV h.1⟩, plainFV1 h.2⟩
    | _ =>
      simp only [plainV.allB1, Bool.and_eq_true] at h
      exact ⟨_, r, rfl, flatFV h.1, plainFV1 h.2⟩
theorem plainFV {R : Nat → Nat → Prop} {v : Value} (h : plainV v = true) : FV R v v := by
  cases v with
  | tuple x => obtain ⟨l⟩ := x; exact ⟨_, rfl, plainFV1 h⟩
  | agg x => obtain ⟨l⟩ := x; exact ⟨_, rfl, flatsFV h⟩
  | _ => exact flatFV h
/-- the end of a function that changes nothing and returns numbers -/
theorem EndB.plain {P : Program} {h : Hp} (En : Entry P h) {L : List (Nat × AObj)} {k : Nat} {v : Value} {Q : AEnd → Hp → Prop} (hv : plainV v = true) (q : Q (.ret v) h) : EndB P h Q (.ret v) (ov h [] L k) :=
  ⟨tau h [], h, v, fades_same En L k, plainFV hv, q⟩
theorem retB {P : Program} {h0 h : Hp} {res : List ResultVar} {Q : AEnd → Hp → Prop} {T : Nat → Value} {r : List Value} (hr : resL (tiOf P) T h.get res = some r) (q : EndB P h0 Q (.ret (oneV r)) h) : bodyB P h0 res Q .ret T h := ⟨r, hr, .inl q⟩
theorem normB {P : Program} {h0 h : Hp} {res : List ResultVar} {Q : AEnd → Hp → Prop} {T : Nat → Value} {r : List Value} (hr : resL (tiOf P) T h.get res = some r) (q : EndB P h0 Q (.ret (oneV r)) h) : bodyB P h0 res Q .normal T h := ⟨r, hr, .inl q⟩
theorem retQ {P : Program} {h0 h : Hp} {res : List ResultVar} {Q : AEnd → Hp → Prop} {T : Nat → Value} {r : List Value} (hr : resL (tiOf P) T h.get res = some r) (q : Q (.ret (oneV r)) h) : bodyB P h0 res Q .ret T h := ⟨r, hr, .inr q⟩
theorem normQ {P : Program} {h0 h : Hp} {res : List ResultVar} {Q : AEnd → Hp → Prop} {T : Nat → Value} {r : List Value} (hr : resL (tiOf P) T h.get res = some r) (q : Q (.ret (oneV r)) h) : bodyB P h0 res Q .normal T h := ⟨r, hr, .inr q⟩
/-- ints -/
structure IsInts (h : Hp) (v : Value) (l : List Int) : Prop where
  sl : IsSl 1 h v (ints l) l.length
  len : ∀ get, lenA (tiOf Tryz.prog) get 22 v = some (.int .i64 l.length)
  idx : ∀ i : Int, 0 ≤ i → i < l.length → indexAddrA (tiOf Tryz.prog) 22 v (.int .i64 i) = some (ptrAt 1 v i.toNat)
  ld : ∀ (j : Nat) (L : List (Nat × AObj)) (k : Nat), j < l.length → loadA (tiOf Tryz.prog) (ov h [] L k).get 3 (ptrAt 1 v j) = some (.int .i64 (l.getD j 0))
theorem IsSl.ints {h : Hp} {v : Value} {l : List Int} (hv : IsSl 1 h v (ints l) l.length) : IsInts h v l where
  sl := hv
  len := fun _ => hv.len ty22 rfl
  idx := fun i h0 h1 => hv.idx ty22 rfl ty3 rfl h0 (by omega)
  ld := fun j L k hj => hv.load ty3 rfl (Nat.le_refl 1) hj (by
    have : (Ab.ints l).drop (j * 1) = .int .i64 (l.getD j 0) :: (Ab.ints l).drop (j + 1) := by
      rw [Nat.mul_one, List.drop_eq_getElem_cons (by simpa using hj)]
      simp [Ab.ints, List.getD_eq_getElem?_getD, hj]
    rw [this]
    rfl) L k
theorem IsInts.ov {h : Hp} {v : Value} {l : List Int} (hv : IsInts h v l) (L : List (Nat × AObj)) (k : Nat) : IsInts (ov h [] L k) v l := (hv.sl.ov L k).ints
/-- what a slice of ints is, all told -/
theorem IsInts.told {h : Hp} {v : Value} {l : List Int} (hv : IsInts h v l) : (v = .slice none 0 0 ∧ l = []) ∨ ∃ i o c ob ro e, v = .slice (some ⟨i, o, none⟩) l.length c ∧ i < h.next ∧ h.get i = some (.cells ob ro e) ∧ (l = [] ∨ ∀ L k, ldN (Ab.ov h [] L k).get ⟨i, o, none⟩ (l.length * 1) = some (Ab.ints l)) ∧ CapOK c l.length 1 := by
  obtain ⟨h0, ⟨h1, h2⟩ | ⟨i, o, c, ob, ro, e, h1, h2, h3, h4, h5⟩⟩ := hv.sl
  · exact .inl ⟨h1, List.length_eq_zero_iff.1 h2⟩
  · refine .inr ⟨i, o, c, ob, ro, e, h1, h2, h3, ?_, h5⟩
    rcases h4 with h4 | h4
    · exact .inl (List.length_eq_zero_iff.1 h4)
    · refine .inr fun L k => ?_
      have hl := congrArg List.length h4
      simp only [List.length_take, List.length_drop, ints_length] at hl
      by_cases hz : l.length * 1 = 0
      · have : l = [] := List.length_eq_zero_iff.1 (by omega)
        subst this
        unfold ldN
        simp only [ov_low0 h2, h3]
        rfl
      · rw [ldN_some (by rw [ov_low0 h2]; exact h3) (by omega), h4]
theorem IsSl.sv {sz n : Nat} {h : Hp} {v : Value} {cs : List Value} (hv : IsSl sz h v cs n) : SV h v := by
  obtain ⟨_, ⟨rfl, _⟩ | ⟨i, o, c, ob, ro, e, rfl, h2, h3, _⟩⟩ := hv
  · rfl
  · exact ⟨_, rfl, ⟨rfl, by rw [h3]; simp⟩, rfl, rfl⟩
theorem IsInts.sv {h : Hp} {v : Value} {l : List Int} (hv : IsInts h v l) : SV h v := hv.sl.sv
theorem SV.fv0 {P : Program} {h : Hp} (En : Entry P h) {v : Value} (hv : SV h v) : FV (Rt (tau h []) h) v v := by
  have := SV.fv (P := P) (U' := []) (L' := []) (k' := 0) (σ := []) En hv
  unfold Rn at this
  rw [ov_self En.lt] at this
  exact this
/-- the end of a function that changes nothing and returns what was there -/
theorem EndB.same {P : Program} {h : Hp} (En : Entry P h) {L : List (Nat × AObj)} {k : Nat} {v : Value} {Q : AEnd → Hp → Prop} (hv : SV h v) (q : Q (.ret v) h) : EndB P h Q (.ret v) (ov h [] L k) :=
  ⟨tau h [], h, v, fades_same En L k, hv.fv0 En, q⟩
theorem ones_ints : ∀ (l : List Int), ones (ints l) = true
  | [] => rfl
  | _ :: l => by show (bif one _ then ones (ints l) else false) = true; simp [one, ones_ints l]
attribute [push_cast] ones_ints
/-- v[:n:n] of n ints -/
noncomputable def clipV (v : Value) (n : Nat) : Value := (sliceA (tiOf Tryz.prog) 22 v none (some (.int .i64 n)) (some (.int .i64 n))).getD junk
theorem IsInts.clip {h : Hp} {v : Value} {l : List Int} (hv : IsInts h v l) (hl : l.length < 18446744073709551616) : sliceA (tiOf Tryz.prog) 22 v none (some (.int .i64 l.length)) (some (.int .i64 l.length)) = some (clipV v l.length) ∧ IsInts h (clipV v l.length) l ∧
    (l ≠ [] → ∃ i o, clipV v l.length = .slice (some ⟨i, o, none⟩) l.length l.length ∧ i < h.next ∧ ∀ L k, ldN (Ab.ov h [] L k).get ⟨i, o, none⟩ (l.length * 1) = some (Ab.ints l)) := by
  have hU : l.length < U := by unfold U; omega
  have hb : ∀ d, bound d (some (.int .i64 (l.length : Int))) = some l.length := fun d => by rw [bound_int (by omega)]; simp
  obtain ⟨h0, ⟨h1, h2⟩ | ⟨i, o, c, ob, ro, e, h1, h2, h3, h4, h5⟩⟩ := hv.sl
  · have hnil : l = [] := List.length_eq_zero_iff.1 h2
    have e1 : sliceA (tiOf Tryz.prog) 22 v none (some (.int .i64 l.length)) (some (.int .i64 l.length)) = some (.slice none 0 0) := by
      subst hnil
      rw [h1]
      unfold sliceA
      rw [ty22]
      simp only [ty3, bound_none]
      rfl
    have e2 : clipV v l.length = .slice none 0 0 := by unfold clipV; rw [e1]; rfl
    rw [e2]
    exact ⟨e1, h1 ▸ hv, fun hne => absurd hnil hne⟩
  · have e1 : sliceA (tiOf Tryz.prog) 22 v none (some (.int .i64 l.length)) (some (.int .i64 l.length)) = some (.slice (some (bif Nat.beq l.length 0 then ⟨i, o, none⟩ else addO (0 * 1) ⟨i, o, none⟩)) l.length l.length) := by
      rw [h1]
      unfold sliceA
      rw [ty22]
      simp only [ty3, bound_none, hb, natOf_int (show (0 : Int) ≤ l.length by omega), Int.toNat_natCast, ble_true (Nat.zero_le _), ble_true (Nat.le_refl _), unk_low hU, Nat.sub_zero, Bool.not_false, Bool.and_true, Bool.true_and]
      have : Nat.ble l.length (bif unk c then l.length else c) = true := by
        rcases h5 with rfl | ⟨h5, h6⟩
        · rw [unk_U]; exact ble_true (Nat.le_refl _)
        · rw [unk_low h5]; exact ble_true h6
      rw [this]
      rfl
    have e3 : (bif Nat.beq l.length 0 then (⟨i, o, none⟩ : Addr) else addO (0 * 1) ⟨i, o, none⟩) = ⟨i, o, none⟩ := by cases Nat.beq l.length 0 <;> rfl
    rw [e3] at e1
    have e2 : clipV v l.length = .slice (some ⟨i, o, none⟩) l.length l.length := by unfold clipV; rw [e1]; rfl
    rw [e2]
    have hI : IsInts h (.slice (some ⟨i, o, none⟩) l.length l.length) l := IsSl.ints ⟨h0, .inr ⟨i, o, l.length, ob, ro, e, rfl, h2, h3, h4, .inr ⟨hU, Nat.le_refl _⟩⟩⟩
    refine ⟨e1, hI, fun hne => ⟨i, o, rfl, h2, ?_⟩⟩
    rcases hI.told with ⟨h, _⟩ | ⟨i', o', c', ob', ro', e', q1, _, _, q4, _⟩
    · cases h
    · cases q1
      exact q4.resolve_left hne
/-- ints in new memory, under the first new number -/
def MadeInts (h : Hp) (l : List Int) (v : Value) (h' : Hp) : Prop :=
  (v = .slice none 0 0 ∧ l = [] ∧ h' = h) ∨ ∃ c, v = .slice (some ⟨loc h 0, 0, none⟩) l.length c ∧ h' = Ab.ov h [] [(0, .cells (Ab.ints l) false 3)] 1 ∧ CapOK c l.length 1
theorem MadeInts.is {h : Hp} {l : List Int} {v : Value} {h' : Hp} (m : MadeInts h l v h') : IsInts h' v l := by
  rcases m with ⟨rfl, rfl, rfl⟩ | ⟨c, rfl, rfl, hc⟩
  · exact IsSl.ints ⟨by simp [Ab.ints], .inl ⟨rfl, rfl⟩⟩
  · refine IsSl.ints ⟨by simp, .inr ⟨_, _, _, _, _, _, rfl, by rw [ov_next, ]; unfold loc; omega, by rw [ov_loc]; rfl, .inr ?_, hc⟩⟩
    rw [List.drop_zero, List.take_of_length_le (by simp)]
theorem MadeInts.low {h : Hp} {l : List Int} {v : Value} {h' : Hp} (m : MadeInts h l v h') {i : Nat} (hi : i < h.next) : h'.get i = h.get i ∧ i < h'.next := by
  rcases m with ⟨_, _, rfl⟩ | ⟨c, _, rfl, _⟩
  · exact ⟨rfl, hi⟩
  · exact ⟨ov_low0 hi, by rw [ov_next]; unfold loc; omega⟩
theorem MadeInts.one {h : Hp} {l : List Int} {v : Value} {h' : Hp} (m : MadeInts h l v h') : Ab.one v = true ∧ cellsOf v = [v] := by
  rcases m with ⟨rfl, _, _⟩ | ⟨c, rfl, _, _⟩ <;> exact ⟨rfl, rfl⟩
theorem MadeInts.fade {P : Program} {h : Hp} (En : Entry P h) {L : List (Nat × AObj)} {k : Nat} (hb : below k L = true) {l : List Int} {v : Value} {h' : Hp} (m : MadeInts (Ab.ov h [] L k) l v h') :
    ∃ τ h2 v2, Fades P h.next τ h' h2 ∧ FV (Rt τ h2) v2 v ∧ MadeInts h l v2 h2 := by
  rcases m with ⟨rfl, rfl, rfl⟩ | ⟨c, rfl, rfl, hc⟩
  · exact ⟨tau h [], h, .slice none 0 0, fades_same En L k, rfl, .inl ⟨rfl, rfl, rfl⟩⟩
  · rw [ov_ov hb, loc_ov]
    refine ⟨tau h [(0, k)], Ab.ov h [] [(0, .cells (Ab.ints l) false 3)] 1, .slice (some ⟨loc h 0, 0, none⟩) l.length c, fades_ov En [(0, k)] trivial trivial ⟨⟨by omega, k, _, rfl, ?_, ⟨_, rfl, intsFVL l⟩⟩, trivial⟩ rfl, ?_, .inr ⟨c, rfl, rfl, hc⟩⟩
    · simp only [shift, Nat.add_zero, List.cons_append, lk, if_true]
    · exact ⟨_, rfl, Rn_loc ⟨_, rfl⟩ rfl, rfl, rfl⟩
theorem ints_snoc (l : List Int) (x : Int) : Ab.ints l ++ [.int .i64 x] = Ab.ints (l ++ [x]) := by simp [Ab.ints]
attribute [push_cast] ints_snoc
theorem IsInts.atLoc {h : Hp} {U' L : List (Nat × AObj)} {k j n c : Nat} {l : List Int} {ro : Bool} {e : Nat} (hj : j < k) (hl : lk L j = some (.cells (Ab.ints l) ro e)) (hn : n = l.length) (hc : CapOK c n 1) : IsInts (Ab.ov h U' L k) (.slice (some ⟨loc h j, 0, none⟩) n c) l := by
  subst hn
  refine IsSl.ints ⟨by simp, .inr ⟨_, _, _, _, _, _, rfl, by rw [ov_next, loc_lt]; exact hj, by rw [ov_loc]; exact hl, .inr ?_, hc⟩⟩
  rw [List.drop_zero, List.take_of_length_le (by simp)]
/-- ints were made, and are not handed on -/
theorem MadeInts.endPlain {P : Program} {h : Hp} (En : Entry P h) {L : List (Nat × AObj)} {k : Nat} (hb : below k L = true) {l : List Int} {v : Value} {h' : Hp} (m : MadeInts (Ab.ov h [] L k) l v h') {r : Value} {Q : AEnd → Hp → Prop} (hv : plainV r = true) (q : Q (.ret r) h) : EndB P h Q (.ret r) h' := by
  rcases m with ⟨_, _, rfl⟩ | ⟨c, _, rfl, _⟩
  · exact EndB.plain En hv q
  · rw [ov_ov hb]; exact EndB.plain En hv q
/-- .. and are handed on with a number -/
theorem MadeInts.endWith {P : Program} {h : Hp} (En : Entry P h) {L : List (Nat × AObj)} {k : Nat} (hb : below k L = true) {l : List Int} {v : Value} {h' : Hp} (m : MadeInts (Ab.ov h [] L k) l v h') {r : Value} {Q : AEnd → Hp → Prop} (hr : flat r = true) (q : ∀ v2 h2, MadeInts h l v2 h2 → Q (.ret (.tuple #[v2, r])) h2) : EndB P h Q (.ret (.tuple #[v, r])) h' := by
  obtain ⟨τ, h2, v2, a, b, c⟩ := m.fade En hb
  exact ⟨τ, h2, .tuple #[v2, r], a, ⟨_, rfl, ⟨_, _, rfl, b, _, _, rfl, flatFV hr, rfl⟩⟩, q _ _ c⟩
theorem ints_take (l : List Int) (n : Nat) : (ints l).take n = ints (l.take n) := by simp [ints, List.map_take]
theorem ints_drop (l : List Int) (n : Nat) : (ints l).drop n = ints (l.drop n) := by simp [ints, List.map_drop]
/-- v[:b] -/
theorem IsInts.take {h : Hp} {v : Value} {l : List Int} {b : Int} (hv : IsInts h v l) (h0 : 0 ≤ b) (h1 : b ≤ l.length) :
    sliceA (tiOf Tryz.prog) 22 v none (some (.int .i64 b)) none = some (subV Tryz.prog 22 v none (some (.int .i64 b))) ∧ IsInts h (subV Tryz.prog 22 v none (some (.int .i64 b))) (l.take b.toNat) := by
  have := hv.sl.sub (P := Tryz.prog) (t := 22) (e := 3) (lo := none) (hi := some (.int .i64 b)) (a := 0) (b := b.toNat) ty22 rfl ty3 rfl rfl (bound_int h0) (fun _ _ => bound_int h0) (by omega) (by omega)
  refine ⟨this.1, IsSl.ints ?_⟩
  have e := this.2
  simp only [Nat.zero_mul, List.drop_zero, Nat.sub_zero, Nat.mul_one, ints_take] at e
  have hl : (l.take b.toNat).length = b.toNat := by simp; omega
  rw [hl]
  exact e
/-- v[a:] -/
theorem IsInts.drop {h : Hp} {v : Value} {l : List Int} {a : Int} (hv : IsInts h v l) (h0 : 0 ≤ a) (h1 : a ≤ l.length) :
    sliceA (tiOf Tryz.prog) 22 v (some (.int .i64 a)) none none = some (subV Tryz.prog 22 v (some (.int .i64 a)) none) ∧ IsInts h (subV Tryz.prog 22 v (some (.int .i64 a)) none) (l.drop a.toNat) := by
  have := hv.sl.sub (P := Tryz.prog) (t := 22) (e := 3) (lo := some (.int .i64 a)) (hi := none) (a := a.toNat) (b := l.length) ty22 rfl ty3 rfl (bound_int h0) rfl (fun x hx => by cases hx) (by omega) (by omega)
  refine ⟨this.1, IsSl.ints ?_⟩
  have e := this.2
  simp only [Nat.mul_one, ints_drop] at e
  have hl : (l.drop a.toNat).length = l.length - a.toNat := by simp
  rw [hl]
  have ht : List.take (l.length - a.toNat) (Ab.ints (l.drop a.toNat)) = Ab.ints (l.drop a.toNat) := List.take_of_length_le (by simp)
  rw [ht] at e
  exact e
end Go.Ab
namespace Go.Ab
open Go.Proofs
set_option maxRecDepth 10000
theorem f119s (a : Int) (h : Hp) : ACalls Tryz.prog 119 [.int .i64 a] (fun e h' => e = .ret (.bool false) ∧ h' = h) h := by
  (refine ACalls.bodyB (fn := Tryz.f119) (ng := 4) (N := 6) (res := [.tmp 2]) (by kernel_rfl) rfl rfl rfl (by kernel_rfl) (fun En hs => ?_); simp only [argsL, Nat.reduceAdd])
  clear hs
  ((repeat refine CWp.seq ?_); refine CWp.region ?_)
  repeat (first | refine RL.w good ?_ | refine RL.k ?_)
  refine RL.nil ?_
  ((repeat refine CWp.seq ?_); refine CWp.region ?_)
  repeat (first | refine RL.w good ?_ | refine RL.k ?_)
  refine RL.nil ?_
  (refine CWp.ret ?_; (try simp (disch := omega) only [qA]); refine rtB ?_; (try simp only [oneV]))
  refine EndB.plain En rfl ⟨by simp, rfl⟩
theorem f85s (a b : Int) (h : Hp) : ACalls Tryz.prog 85 [.int .i64 a, .int .i64 b] (fun e h' => e = .ret (.bool (decide (a < b))) ∧ h' = h) h := by
  (refine ACalls.bodyB (fn := Tryz.f85) (ng := 4) (N := 17) (res := [.tmp 4]) (by kernel_rfl) rfl rfl rfl (by kernel_rfl) (fun En hs => ?_); simp only [argsL, Nat.reduceAdd])
  clear hs
  ((repeat refine CWp.seq ?_); refine CWp.region ?_)
  repeat (first | refine RL.w good ?_ | refine RL.k ?_)
  refine RL.nil ?_
  ((repeat refine CWp.seq ?_); refine CWp.region ?_)
  repeat (first | refine RL.w good ?_ | refine RL.k ?_)
  (refine' RL.c good ?_ ?_ ?_; rotate_left)
  · exact f119s a _
  · rintro v h' ⟨e, rfl⟩
    cases e
    simp only [push_cast]
    repeat (first | refine RL.w good ?_ | refine RL.k ?_)
    refine RL.nil ?_
    (refine CWp.ret ?_; (try simp (disch := omega) only [qA]); refine rtB ?_; (try simp only [oneV]))
    refine EndB.plain En rfl ⟨by simp, rfl⟩
  · rintro v h' ⟨e, _⟩; cases e
/-- binary search, as it runs -/
def bsL (l : List Int) (x : Int) : Nat → Int → Int → Int
  | 0, i, _ => i
  | n + 1, i, j => bif decide (i < j) then (bif decide (l.getD ((i + j) / 2).toNat 0 < x) then bsL l x n ((i + j) / 2 + 1) j else bsL l x n i ((i + j) / 2)) else i
def bs (l : List Int) (x : Int) : Int × Bool :=
  let i := bsL l x l.length 0 l.length
  (i, decide (i < l.length) && (l.getD i.toNat 0 == x))
theorem bsL_done (l : List Int) (x : Int) (n : Nat) {i j : Int} (h : j ≤ i) : bsL l x n i j = i := by
  cases n with
  | zero => rfl
  | succ n => unfold bsL; rw [show decide (i < j) = false by simp; omega]; rfl
theorem f86s (a : Int) (h : Hp) : ACalls Tryz.prog 86 [.int .i64 a] (fun e h' => e = .ret (.bool false) ∧ h' = h) h := by
  (refine ACalls.bodyB (fn := Tryz.f86) (ng := 4) (N := 6) (res := [.tmp 2]) (by kernel_rfl) rfl rfl rfl (by kernel_rfl) (fun En hs => ?_); simp only [argsL, Nat.reduceAdd])
  clear hs
  ((repeat refine CWp.seq ?_); refine CWp.region ?_)
  repeat (first | refine RL.w good ?_ | refine RL.k ?_)
  refine RL.nil ?_
  ((repeat refine CWp.seq ?_); refine CWp.region ?_)
  repeat (first | refine RL.w good ?_ | refine RL.k ?_)
  refine RL.nil ?_
  (refine CWp.ret ?_; (try simp (disch := omega) only [qA]); refine rtB ?_; (try simp only [oneV]))
  refine EndB.plain En rfl ⟨by simp, rfl⟩
theorem f64s (v : Value) (l : List Int) (x : Int) (h : Hp) (hv : IsInts h v l) (hl : l.length < 4611686018427387904) : ACalls Tryz.prog 64 [v, .int .i64 x] (fun e h' => e = .ret (.tuple #[.int .i64 (bs l x).1, .bool (bs l x).2]) ∧ h' = h) h := by
  obtain ⟨hsl, hlen, hidx, hld⟩ := hv
  (refine ACalls.bodyB (fn := Tryz.f64) (ng := 4) (N := 54) (res := [.tmp 4, .tmp 5]) (by kernel_rfl) rfl rfl rfl (by kernel_rfl) (fun En hs => ?_); simp only [argsL, Nat.reduceAdd])
  have sv : SV h v := hs v (by simp)
  clear hs
  ((repeat refine CWp.seq ?_); refine CWp.region ?_)
  repeat (first | refine RL.w good ?_ | refine RL.k ?_)
  refine RL.nil ?_
  ((repeat refine CWp.seq ?_); refine CWp.region ?_)
  repeat (first | refine RL.w good ?_ | refine RL.k ?_)
  refine RL.nil ?_
  ((repeat refine CWp.seq ?_); refine CWp.region ?_)
  repeat (first | refine RL.w good ?_ | refine RL.k ?_)
  refine RL.nil ?_
  ((repeat refine CWp.seq ?_); refine CWp.block ?_)
  refine CWp.loop (fun (s : Int × Int × Nat) => (tl [(0, v), (1, .int .i64 x), (6, .int .i64 l.length), (7, .int .i64 s.1), (8, .int .i64 s.2.1)], ov h [] [] 0)) (fun s => s.2.2)
    (fun s => 0 ≤ s.1 ∧ s.1 ≤ s.2.1 ∧ s.2.1 ≤ l.length ∧ s.2.1 - s.1 ≤ s.2.2 ∧ (bs l x).1 = bsL l x s.2.2 s.1 s.2.1) (0, l.length, l.length) (by simp [bs]) ?_ ?_
  · ((try dsimp only); apply fades_to En []; (· (repeat (refine And.intro ?_ ?_; (· ((try simp only [push_cast, reduceIte, Nat.reduceEqDiff, *]) <;> first | exact rfl | exact SV.fv En (by assumption) | exact ⟨_, rfl, Rn_loc ⟨_, rfl⟩ rfl, rfl, rfl⟩ | exact ⟨_, _, rfl, rfl, rfl⟩ | exact congrArg (Value.int _) (by omega))))) <;> exact trivial); (· exact trivial); (· exact trivial); (· exact trivial); (· exact rfl))
  · rintro ⟨i, j, n⟩ ⟨h1, h2, h3, h4, h5⟩
    simp only at h1 h2 h3 h4 h5 ⊢
    ((repeat refine CWp.seq ?_); refine CWp.region ?_)
    repeat (first | refine RL.w good ?_ | refine RL.k ?_)
    refine RL.nil ?_
    ((repeat refine CWp.seq ?_); refine CWp.cnd good ?_ ?_)
    · (intro hc; (try simp only [decide_eq_true_eq, decide_eq_false_iff_not, Bool.not_eq_true, Bool.not_eq_false, Int.not_lt, Int.not_le, bne_iff_ne, beq_iff_eq, ne_eq, Bool.not_eq_eq_eq_not, Bool.not_true, Bool.not_false] at hc))
      (refine CWp.skip ?_; (try simp (disch := omega) only [qA]))
      ((repeat refine CWp.seq ?_); refine CWp.block ?_)
      ((repeat refine CWp.seq ?_); refine CWp.region ?_)
      repeat (first | refine RL.w good ?_ | refine RL.k ?_)
      refine RL.nil ?_
      (try simp (disch := omega) only [qA])
      ((repeat refine CWp.seq ?_); refine CWp.region ?_)
      repeat (first | refine RL.w good ?_ | refine RL.k ?_)
      (refine' RL.c good ?_ ?_ ?_; rotate_left)
      · exact f85s _ _ _
      · rintro v' h' ⟨e, rfl⟩
        cases e
        simp only [push_cast]
        refine RL.nil ?_
        (try simp (disch := omega) only [qA])
        obtain ⟨n, rfl⟩ : ∃ m, n = m + 1 := ⟨n - 1, by omega⟩
        unfold bsL at h5
        rw [decide_eq_true hc, cond_true] at h5
        ((repeat refine CWp.seq ?_); refine CWp.cnd good ?_ ?_)
        · intro hc2
          rw [hc2, cond_true] at h5
          ((repeat refine CWp.seq ?_); refine CWp.region ?_)
          repeat (first | refine RL.w good ?_ | refine RL.k ?_)
          refine RL.nil ?_
          (try simp (disch := omega) only [qA])
          refine ⟨((i + j) / 2 + 1, j, n), ⟨by dsimp only; omega, by dsimp only; omega, h3, by dsimp only; omega, h5⟩, by dsimp only; omega, ?_⟩
          ((try dsimp only); apply fades_to En []; (· (repeat (refine And.intro ?_ ?_; (· ((try simp only [push_cast, reduceIte, Nat.reduceEqDiff, *]) <;> first | exact rfl | exact SV.fv En (by assumption) | exact ⟨_, rfl, Rn_loc ⟨_, rfl⟩ rfl, rfl, rfl⟩ | exact ⟨_, _, rfl, rfl, rfl⟩ | exact congrArg (Value.int _) (by omega))))) <;> exact trivial); (· exact trivial); (· exact trivial); (· exact trivial); (· exact rfl))
        · intro hc2
          rw [hc2, cond_false] at h5
          ((repeat refine CWp.seq ?_); refine CWp.region ?_)
          repeat (first | refine RL.w good ?_ | refine RL.k ?_)
          refine RL.nil ?_
          (try simp (disch := omega) only [qA])
          refine ⟨(i, (i + j) / 2, n), ⟨h1, by dsimp only; omega, by dsimp only; omega, by dsimp only; omega, h5⟩, by dsimp only; omega, ?_⟩
          ((try dsimp only); apply fades_to En []; (· (repeat (refine And.intro ?_ ?_; (· ((try simp only [push_cast, reduceIte, Nat.reduceEqDiff, *]) <;> first | exact rfl | exact SV.fv En (by assumption) | exact ⟨_, rfl, Rn_loc ⟨_, rfl⟩ rfl, rfl, rfl⟩ | exact ⟨_, _, rfl, rfl, rfl⟩ | exact congrArg (Value.int _) (by omega))))) <;> exact trivial); (· exact trivial); (· exact trivial); (· exact trivial); (· exact rfl))
      · rintro v h' ⟨e, _⟩; cases e
    · (intro hc; (try simp only [decide_eq_true_eq, decide_eq_false_iff_not, Bool.not_eq_true, Bool.not_eq_false, Int.not_lt, Int.not_le, bne_iff_ne, beq_iff_eq, ne_eq, Bool.not_eq_eq_eq_not, Bool.not_true, Bool.not_false] at hc))
      (refine CWp.exit ?_; (try simp (disch := omega) only [qA]))
      rw [bsL_done _ _ _ hc] at h5
      ((repeat refine CWp.seq ?_); refine CWp.region ?_)
      repeat (first | refine RL.w good ?_ | refine RL.k ?_)
      cases hd : decide (i < (l.length : Int))
      · repeat (first | refine RL.w good ?_ | refine RL.k ?_)
        refine RL.nil ?_
        (try simp (disch := omega) only [qA])
        (refine CWp.ret ?_; (try simp (disch := omega) only [qA]); refine rtB ?_; (try simp only [oneV]))
        refine EndB.plain En rfl ⟨?_, rfl⟩
        have e2 : (bs l x).2 = false := by unfold bs; simp only; rw [show bsL l x l.length 0 l.length = i from h5, hd]; rfl
        rw [h5, e2]
      · simp only [decide_eq_true_eq] at hd
        repeat (first | refine RL.w good ?_ | refine RL.k ?_)
        cases he : (l.getD i.toNat 0 == x)
        · repeat (first | refine RL.w good ?_ | refine RL.k ?_)
          (refine' RL.c good ?_ ?_ ?_; rotate_left)
          · exact f86s _ _
          · rintro v' h' ⟨e, rfl⟩
            cases e
            simp only [push_cast]
            repeat (first | refine RL.w good ?_ | refine RL.k ?_)
            refine RL.nil ?_
            (try simp (disch := omega) only [qA])
            (refine CWp.ret ?_; (try simp (disch := omega) only [qA]); refine rtB ?_; (try simp only [oneV]))
            refine EndB.plain En rfl ⟨?_, rfl⟩
            have e2 : (bs l x).2 = false := by unfold bs; simp only; rw [show bsL l x l.length 0 l.length = i from h5]; simp only [decide_eq_true hd, he, Bool.and_false]
            rw [h5, e2]
          · rintro v h' ⟨e, _⟩; cases e
        · repeat (first | refine RL.w good ?_ | refine RL.k ?_)
          refine RL.nil ?_
          (try simp (disch := omega) only [qA])
          (refine CWp.ret ?_; (try simp (disch := omega) only [qA]); refine rtB ?_; (try simp only [oneV]))
          refine EndB.plain En rfl ⟨?_, rfl⟩
          have e2 : (bs l x).2 = true := by unfold bs; simp only; rw [show bsL l x l.length 0 l.length = i from h5]; simp only [decide_eq_true hd, he, Bool.and_true]
          rw [h5, e2]
end Go.Ab
namespace Go.Ab
open Go.Proofs
set_option maxRecDepth 10000
/-- of which numbers of a chain a number is the sum, as it runs (from the n-th down) -/
def wayL (l : List Int) (x : Int) : Nat → Option (Nat × Int)
  | 0 => none
  | i + 1 =>
    let r := bs (l.take (i + 1)) (x - l.getD i 0)
    bif r.2 then some (i, r.1) else wayL l x i
def wayV (l : List Int) (x : Int) : Value :=
  match wayL l x l.length with
  | some (i, k) => .tuple #[.agg #[.int .i64 i, .int .i64 k], .bool true]
  | none => .tuple #[.agg #[.int .i64 0, .int .i64 0], .bool false]
theorem f42s (v : Value) (l : List Int) (x : Int) (h : Hp) (hv : IsInts h v l) (hl : l.length ≤ 100) (hx : -1000000 ≤ x ∧ x ≤ 1000000) (hb : ∀ j, -1000000 ≤ l.getD j 0 ∧ l.getD j 0 ≤ 1000000) :
    ACalls Tryz.prog 42 [v, .int .i64 x] (fun e h' => e = .ret (wayV l x) ∧ h' = h) h := by
  have hlen := hv.len
  have hidx := hv.idx
  have hld := hv.ld
  (refine ACalls.bodyB (fn := Tryz.f42) (ng := 4) (N := 35) (res := [.cell 4 69, .tmp 5]) (by kernel_rfl) rfl rfl rfl (by kernel_rfl) (fun En hs => ?_); simp only [argsL, Nat.reduceAdd])
  have sv : SV h v := hs v (by simp)
  clear hs
  ((repeat refine CWp.seq ?_); refine CWp.region ?_)
  repeat (first | refine RL.w good ?_ | refine RL.k ?_)
  refine RL.nil ?_
  ((repeat refine CWp.seq ?_); refine CWp.region ?_)
  repeat (first | refine RL.w good ?_ | refine RL.k ?_)
  refine RL.nil ?_
  ((repeat refine CWp.seq ?_); refine CWp.block ?_)
  refine CWp.loop (fun (n : Nat) => (tl [(0, v), (1, .int .i64 x), (4, .pointer (some ⟨loc h 0, 0, none⟩)), (6, .int .i64 ((n : Int) - 1))], ov h [] [(0, .cells [.int .i64 0, .int .i64 0] false 69)] 1)) (fun n => n)
    (fun n => n ≤ l.length ∧ wayL l x l.length = wayL l x n) l.length (by simp) ?_ ?_
  · ((try dsimp only); apply fades_to En [(0, 0)]; (· (repeat (refine And.intro ?_ ?_; (· ((try simp only [push_cast, reduceIte, Nat.reduceEqDiff, *]) <;> first | exact rfl | exact SV.fv En (by assumption) | exact ⟨_, rfl, Rn_loc ⟨_, rfl⟩ rfl, rfl, rfl⟩ | exact ⟨_, _, rfl, rfl, rfl⟩ | exact congrArg (Value.int _) (by omega))))) <;> exact trivial); (· exact trivial); (· exact trivial); (· (repeat (refine And.intro ⟨by decide, _, _, rfl, rfl, ?_⟩ ?_; (· (first | exact ⟨_, rfl, flatsFV rfl⟩ | exact ⟨_, rfl, intsFVL _⟩ | (refine ⟨_, rfl, ?_⟩; (repeat (refine ⟨_, _, rfl, ?_, ?_⟩; (· (first | exact rfl | exact SV.fv En (by assumption) | exact ⟨_, rfl, Rn_loc ⟨_, rfl⟩ rfl, rfl, rfl⟩ | exact ⟨_, _, rfl, rfl, rfl⟩ | exact congrArg (Value.int _) (by omega))))); exact rfl))))) <;> exact trivial); (· exact rfl))
  · rintro n ⟨h1, h2⟩
    ((repeat refine CWp.seq ?_); refine CWp.region ?_)
    repeat (first | refine RL.w good ?_ | refine RL.k ?_)
    refine RL.nil ?_
    (try simp (disch := omega) only [qA])
    ((repeat refine CWp.seq ?_); refine CWp.cnd good ?_ ?_)
    · (intro hc; (try simp only [decide_eq_true_eq, decide_eq_false_iff_not, Bool.not_eq_true, Bool.not_eq_false, Int.not_lt, Int.not_le, bne_iff_ne, beq_iff_eq, ne_eq, Bool.not_eq_eq_eq_not, Bool.not_true, Bool.not_false] at hc))
      obtain ⟨n, rfl⟩ : ∃ m, n = m + 1 := ⟨n - 1, by omega⟩
      (refine CWp.skip ?_; (try simp (disch := omega) only [qA]))
      ((repeat refine CWp.seq ?_); refine CWp.block ?_)
      have hbn := hb n
      obtain ⟨ht1, ht2⟩ := hv.take (b := (n : Int) + 1) (by omega) (by omega)
      ((repeat refine CWp.seq ?_); refine CWp.drawI good (fun g => memN g [64]) [(0, true), (1, true), (2, true), (3, true), (4, true), (5, true), (6, true), (7, true), (8, true), (9, true), (10, true), (11, true), (12, true), (13, true), (14, true), (15, true)] (by kernel_rfl) (fun _ _ _ q => q) ?_)
      rw [show ((n + 1 : Nat) : Int) - 1 = n by omega]
      repeat (first | refine PL.w ?_ | refine PL.wk ?_ | refine PL.ew ?_ | refine PL.ewk ?_)
      (apply PL.flcall; (· (first | exact rfl | (simp only [push_cast, reduceIte, Nat.reduceEqDiff, *]; done) | (simp only [push_cast, reduceIte, Nat.reduceEqDiff, *]; exact rfl))); (· (exact rfl)); (· (exact rfl)); (· (simp (disch := omega) only [push_cast, reduceIte, Nat.reduceEqDiff, beq_self_eq_true, bne_self_eq_false, Int.reduceBEq, Int.reduceBNe, Int.reduceLT, Int.reduceLE, Nat.reduceAdd, Nat.reduceMul, Nat.reduceSub, Int.reduceToNat, Nat.reducePow, Int.reducePow, *] <;> exact rfl)); (· (exact en (by kernel_rfl))); (· (simp (disch := omega) only [push_cast, reduceIte, Nat.reduceEqDiff, beq_self_eq_true, bne_self_eq_false, Int.reduceBEq, Int.reduceBNe, Int.reduceLT, Int.reduceLE, Nat.reduceAdd, Nat.reduceMul, Nat.reduceSub, Int.reduceToNat, Nat.reducePow, Int.reducePow, *] <;> exact rfl)))
      · exact f64s _ _ _ _ (ht2.ov _ _) (by simp; omega)
      · simp only [push_cast] <;> exact rfl <;> exact rfl
      simp only [Int.toNat_natCast_add_one]
      have hw : wayL l x (n + 1) = bif (bs (l.take (n + 1)) (x - l.getD n 0)).2 then some (n, (bs (l.take (n + 1)) (x - l.getD n 0)).1) else wayL l x n := rfl
      repeat (first | refine PL.w ?_ | refine PL.wk ?_ | refine PL.ew ?_ | refine PL.ewk ?_)
      refine PL.nil ?_
      (try simp (disch := omega) only [qA])
      ((repeat refine CWp.seq ?_); refine CWp.region ?_)
      repeat (first | refine RL.w good ?_ | refine RL.k ?_)
      refine RL.nil ?_
      (try simp (disch := omega) only [qA])
      ((repeat refine CWp.seq ?_); refine CWp.cnd good ?_ ?_)
      · intro hb2
        ((repeat refine CWp.seq ?_); refine CWp.region ?_)
        repeat (first | refine RL.w good ?_ | refine RL.k ?_)
        refine RL.nil ?_
        (try simp (disch := omega) only [qA])
        (refine CWp.ret ?_; (try simp (disch := omega) only [qA]); refine rtB ?_; (try simp only [oneV]))
        refine EndB.plain En rfl ⟨?_, rfl⟩
        unfold wayV
        rw [h2, hw, hb2]
        rfl
      · intro hb2
        (refine CWp.skip ?_; (try simp (disch := omega) only [qA]))
        ((repeat refine CWp.seq ?_); refine CWp.region ?_)
        repeat (first | refine RL.w good ?_ | refine RL.k ?_)
        refine RL.nil ?_
        (try simp (disch := omega) only [qA])
        refine ⟨n, ⟨by omega, ?_⟩, by omega, ?_⟩
        · rw [h2, hw, hb2]; rfl
        · ((try dsimp only); apply fades_to En [(0, 0)]; (· (repeat (refine And.intro ?_ ?_; (· ((try simp only [push_cast, reduceIte, Nat.reduceEqDiff, *]) <;> first | exact rfl | exact SV.fv En (by assumption) | exact ⟨_, rfl, Rn_loc ⟨_, rfl⟩ rfl, rfl, rfl⟩ | exact ⟨_, _, rfl, rfl, rfl⟩ | exact congrArg (Value.int _) (by omega))))) <;> exact trivial); (· exact trivial); (· exact trivial); (· (repeat (refine And.intro ⟨by decide, _, _, rfl, rfl, ?_⟩ ?_; (· (first | exact ⟨_, rfl, flatsFV rfl⟩ | exact ⟨_, rfl, intsFVL _⟩ | (refine ⟨_, rfl, ?_⟩; (repeat (refine ⟨_, _, rfl, ?_, ?_⟩; (· (first | exact rfl | exact SV.fv En (by assumption) | exact ⟨_, rfl, Rn_loc ⟨_, rfl⟩ rfl, rfl, rfl⟩ | exact ⟨_, _, rfl, rfl, rfl⟩ | exact congrArg (Value.int _) (by omega))))); exact rfl))))) <;> exact trivial); (· exact rfl))
    · (intro hc; (try simp only [decide_eq_true_eq, decide_eq_false_iff_not, Bool.not_eq_true, Bool.not_eq_false, Int.not_lt, Int.not_le, bne_iff_ne, beq_iff_eq, ne_eq, Bool.not_eq_eq_eq_not, Bool.not_true, Bool.not_false] at hc))
      obtain rfl : n = 0 := by omega
      (refine CWp.exit ?_; (try simp (disch := omega) only [qA]))
      ((repeat refine CWp.seq ?_); refine CWp.region ?_)
      repeat (first | refine RL.w good ?_ | refine RL.k ?_)
      refine RL.nil ?_
      (try simp (disch := omega) only [qA])
      (refine CWp.ret ?_; (try simp (disch := omega) only [qA]); refine rtB ?_; (try simp only [oneV]))
      refine EndB.plain En rfl ⟨?_, rfl⟩
      unfold wayV
      rw [h2]
      rfl
end Go.Ab
namespace Go.Ab
open Go.Proofs
set_option maxRecDepth 10000
def btw (a b c : Int) : Bool := decide (a ≤ b) && decide (b ≤ c)
theorem f41s (a b c : Int) (h : Hp) : ACalls Tryz.prog 41 [.int .i64 a, .int .i64 b, .int .i64 c] (fun e h' => e = .ret (.bool (btw a b c)) ∧ h' = h) h := by
  unfold btw
  (refine ACalls.bodyB (fn := Tryz.f41) (ng := 4) (N := 15) (res := [.tmp 6]) (by kernel_rfl) rfl rfl rfl (by kernel_rfl) (fun En hs => ?_); simp only [argsL, Nat.reduceAdd])
  clear hs
  ((repeat refine CWp.seq ?_); refine CWp.region ?_)
  repeat (first | refine RL.w good ?_ | refine RL.k ?_)
  refine RL.nil ?_
  ((repeat refine CWp.seq ?_); refine CWp.region ?_)
  repeat (first | refine RL.w good ?_ | refine RL.k ?_)
  cases hd : decide (a ≤ b)
  all_goals
    repeat (first | refine RL.w good ?_ | refine RL.k ?_)
    refine RL.nil ?_
    (refine CWp.ret ?_; (try simp (disch := omega) only [qA]); refine rtB ?_; (try simp only [oneV]))
    exact EndB.plain En rfl ⟨rfl, rfl⟩
/-- the first place of a number, from the n-th on -/
def ixL (l : List Int) (x : Int) : Nat → Nat → Int
  | 0, _ => -1
  | n + 1, i => bif x == l.getD i 0 then (i : Int) else ixL l x n (i + 1)
def ix (l : List Int) (x : Int) : Int := ixL l x l.length 0
theorem f87s (v : Value) (l : List Int) (x : Int) (h : Hp) (hv : IsInts h v l) (hl : l.length < 4611686018427387904) : ACalls Tryz.prog 87 [v, .int .i64 x] (fun e h' => e = .ret (.int .i64 (ix l x)) ∧ h' = h) h := by
  obtain ⟨hsl, hlen, hidx, hld⟩ := hv
  (refine ACalls.bodyB (fn := Tryz.f87) (ng := 4) (N := 19) (res := [.tmp 4]) (by kernel_rfl) rfl rfl rfl (by kernel_rfl) (fun En hs => ?_); simp only [argsL, Nat.reduceAdd])
  have sv : SV h v := hs v (by simp)
  clear hs
  ((repeat refine CWp.seq ?_); refine CWp.region ?_)
  repeat (first | refine RL.w good ?_ | refine RL.k ?_)
  refine RL.nil ?_
  ((repeat refine CWp.seq ?_); refine CWp.region ?_)
  repeat (first | refine RL.w good ?_ | refine RL.k ?_)
  refine RL.nil ?_
  ((repeat refine CWp.seq ?_); refine CWp.block ?_)
  refine CWp.loop (fun (n : Nat) => (tl [(0, v), (1, .int .i64 x), (7, .int .i64 l.length), (8, .int .i64 n)], ov h [] [] 0)) (fun n => l.length - n)
    (fun n => n ≤ l.length ∧ ix l x = ixL l x (l.length - n) n) 0 ⟨by omega, rfl⟩ ?_ ?_
  · ((try dsimp only); apply fades_to En []; (· (repeat (refine And.intro ?_ ?_; (· ((try simp only [push_cast, reduceIte, Nat.reduceEqDiff, *]) <;> first | exact rfl | exact SV.fv En (by assumption) | exact ⟨_, rfl, Rn_loc ⟨_, rfl⟩ rfl, rfl, rfl⟩ | exact ⟨_, _, rfl, rfl, rfl⟩ | exact congrArg (Value.int _) (by omega))))) <;> exact trivial); (· exact trivial); (· exact trivial); (· (repeat (refine And.intro ⟨by decide, _, _, rfl, rfl, ?_⟩ ?_; (· (first | exact ⟨_, rfl, flatsFV rfl⟩ | exact ⟨_, rfl, intsFVL _⟩ | (refine ⟨_, rfl, ?_⟩; (repeat (refine ⟨_, _, rfl, ?_, ?_⟩; (· (first | exact rfl | exact SV.fv En (by assumption) | exact ⟨_, rfl, Rn_loc ⟨_, rfl⟩ rfl, rfl, rfl⟩ | exact ⟨_, _, rfl, rfl, rfl⟩ | exact congrArg (Value.int _) (by omega))))); exact rfl))))) <;> exact trivial); (· exact rfl))
  · rintro n ⟨h1, h2⟩
    ((repeat refine CWp.seq ?_); refine CWp.region ?_)
    repeat (first | refine RL.w good ?_ | refine RL.k ?_)
    refine RL.nil ?_
    (try simp (disch := omega) only [qA])
    ((repeat refine CWp.seq ?_); refine CWp.cnd good ?_ ?_)
    · (intro hc; (try simp only [decide_eq_true_eq, decide_eq_false_iff_not, Bool.not_eq_true, Bool.not_eq_false, Int.not_lt, Int.not_le, bne_iff_ne, beq_iff_eq, ne_eq, Bool.not_eq_eq_eq_not, Bool.not_true, Bool.not_false] at hc))
      have e2 : ixL l x (l.length - n) n = bif x == l.getD n 0 then (n : Int) else ixL l x (l.length - (n + 1)) (n + 1) := by
        rw [show l.length - n = (l.length - (n + 1)) + 1 by omega]; rfl
      (refine CWp.skip ?_; (try simp (disch := omega) only [qA]))
      ((repeat refine CWp.seq ?_); refine CWp.block ?_)
      ((repeat refine CWp.seq ?_); refine CWp.region ?_)
      repeat (first | refine RL.w good ?_ | refine RL.k ?_)
      refine RL.nil ?_
      (try simp (disch := omega) only [qA])
      ((repeat refine CWp.seq ?_); refine CWp.region ?_)
      repeat (first | refine RL.w good ?_ | refine RL.k ?_)
      refine RL.nil ?_
      (try simp (disch := omega) only [qA])
      ((repeat refine CWp.seq ?_); refine CWp.cnd good ?_ ?_)
      · intro hb2
        ((repeat refine CWp.seq ?_); refine CWp.region ?_)
        repeat (first | refine RL.w good ?_ | refine RL.k ?_)
        refine RL.nil ?_
        (try simp (disch := omega) only [qA])
        (refine CWp.ret ?_; (try simp (disch := omega) only [qA]); refine rtB ?_; (try simp only [oneV]))
        refine EndB.plain En rfl ⟨?_, rfl⟩
        rw [h2, e2, hb2]; rfl
      · intro hb2
        (refine CWp.skip ?_; (try simp (disch := omega) only [qA]))
        ((repeat refine CWp.seq ?_); refine CWp.region ?_)
        repeat (first | refine RL.w good ?_ | refine RL.k ?_)
        refine RL.nil ?_
        (try simp (disch := omega) only [qA])
        refine ⟨n + 1, ⟨by omega, ?_⟩, by omega, ?_⟩
        · rw [h2, e2, hb2]; rfl
        · ((try dsimp only); apply fades_to En []; (· (repeat (refine And.intro ?_ ?_; (· ((try simp only [push_cast, reduceIte, Nat.reduceEqDiff, *]) <;> first | exact rfl | exact SV.fv En (by assumption) | exact ⟨_, rfl, Rn_loc ⟨_, rfl⟩ rfl, rfl, rfl⟩ | exact ⟨_, _, rfl, rfl, rfl⟩ | exact congrArg (Value.int _) (by omega))))) <;> exact trivial); (· exact trivial); (· exact trivial); (· (repeat (refine And.intro ⟨by decide, _, _, rfl, rfl, ?_⟩ ?_; (· (first | exact ⟨_, rfl, flatsFV rfl⟩ | exact ⟨_, rfl, intsFVL _⟩ | (refine ⟨_, rfl, ?_⟩; (repeat (refine ⟨_, _, rfl, ?_, ?_⟩; (· (first | exact rfl | exact SV.fv En (by assumption) | exact ⟨_, rfl, Rn_loc ⟨_, rfl⟩ rfl, rfl, rfl⟩ | exact ⟨_, _, rfl, rfl, rfl⟩ | exact congrArg (Value.int _) (by omega))))); exact rfl))))) <;> exact trivial); (· exact rfl))
    · (intro hc; (try simp only [decide_eq_true_eq, decide_eq_false_iff_not, Bool.not_eq_true, Bool.not_eq_false, Int.not_lt, Int.not_le, bne_iff_ne, beq_iff_eq, ne_eq, Bool.not_eq_eq_eq_not, Bool.not_true, Bool.not_false] at hc))
      have hn : n = l.length := by omega
      (refine CWp.exit ?_; (try simp (disch := omega) only [qA]))
      ((repeat refine CWp.seq ?_); refine CWp.region ?_)
      repeat (first | refine RL.w good ?_ | refine RL.k ?_)
      refine RL.nil ?_
      (try simp (disch := omega) only [qA])
      (refine CWp.ret ?_; (try simp (disch := omega) only [qA]); refine rtB ?_; (try simp only [oneV]))
      refine EndB.plain En rfl ⟨?_, rfl⟩
      rw [h2, hn, Nat.sub_self]
      rfl
def has (l : List Int) (x : Int) : Bool := decide (0 ≤ ix l x)
theorem f65s (v : Value) (l : List Int) (x : Int) (h : Hp) (hv : IsInts h v l) (hl : l.length < 4611686018427387904) : ACalls Tryz.prog 65 [v, .int .i64 x] (fun e h' => e = .ret (.bool (has l x)) ∧ h' = h) h := by
  (refine ACalls.bodyB (fn := Tryz.f65) (ng := 4) (N := 9) (res := [.tmp 4]) (by kernel_rfl) rfl rfl rfl (by kernel_rfl) (fun En hs => ?_); simp only [argsL, Nat.reduceAdd])
  clear hs
  ((repeat refine CWp.seq ?_); refine CWp.region ?_)
  repeat (first | refine RL.w good ?_ | refine RL.k ?_)
  refine RL.nil ?_
  ((repeat refine CWp.seq ?_); refine CWp.region ?_)
  repeat (first | refine RL.w good ?_ | refine RL.k ?_)
  (refine' RL.c good ?_ ?_ ?_; rotate_left)
  · exact f87s _ _ _ _ (hv.ov _ _) hl
  · rintro v' h' ⟨e, rfl⟩
    cases e
    simp only [push_cast]
    repeat (first | refine RL.w good ?_ | refine RL.k ?_)
    refine RL.nil ?_
    (try simp (disch := omega) only [qA])
    (refine CWp.ret ?_; (try simp (disch := omega) only [qA]); refine rtB ?_; (try simp only [oneV]))
    exact EndB.plain En rfl ⟨rfl, rfl⟩
  · rintro v h' ⟨e, _⟩; cases e
end Go.Ab
namespace Go.Ab
open Go.Proofs
set_option maxRecDepth 10000
theorem f52s (v : Value) (l : List Int) (h : Hp) (hv : IsInts h v l) (hl : l.length ≤ 1000000) : ACalls Tryz.prog 52 [v] (fun e h' => ∃ v', e = .ret v' ∧ MadeInts h l v' h') h := by
  rcases hv.told with ⟨rfl, rfl⟩ | ⟨i, o, c, ob, ro, e, rfl, hi, hg, hld, hc⟩
  · (refine ACalls.bodyB (fn := Tryz.f52) (ng := 4) (N := 8) (res := [.tmp 2]) (by kernel_rfl) rfl rfl rfl (by kernel_rfl) (fun En hs => ?_); simp only [argsL, Nat.reduceAdd])
    ((repeat refine CWp.seq ?_); refine CWp.region ?_)
    repeat (first | refine RL.w good ?_ | refine RL.k ?_)
    refine RL.nil ?_
    (try simp (disch := omega) only [qA])
    ((repeat refine CWp.seq ?_); refine CWp.region ?_)
    repeat (first | refine RL.w good ?_ | refine RL.k ?_)
    refine RL.nil ?_
    (try simp (disch := omega) only [qA])
    ((repeat refine CWp.seq ?_); refine CWp.cnd good ?_ ?_)
    · (intro hc; (try simp only [decide_eq_true_eq, decide_eq_false_iff_not, Bool.not_eq_true, Bool.not_eq_false, Int.not_lt, Int.not_le, bne_iff_ne, beq_iff_eq, ne_eq, Bool.not_eq_eq_eq_not, Bool.not_true, Bool.not_false] at hc))
      ((repeat refine CWp.seq ?_); refine CWp.region ?_)
      repeat (first | refine RL.w good ?_ | refine RL.k ?_)
      refine RL.nil ?_
      (try simp (disch := omega) only [qA])
      (refine CWp.ret ?_; (try simp (disch := omega) only [qA]); refine rtB ?_; (try simp only [oneV]))
      exact EndB.plain En rfl ⟨_, rfl, .inl ⟨rfl, rfl, rfl⟩⟩
    · intro hc
      simp at hc
  · (refine ACalls.bodyB (fn := Tryz.f52) (ng := 4) (N := 8) (res := [.tmp 2]) (by kernel_rfl) rfl rfl rfl (by kernel_rfl) (fun En hs => ?_); simp only [argsL, Nat.reduceAdd])
    have sv := hs _ List.mem_cons_self
    clear hs
    ((repeat refine CWp.seq ?_); refine CWp.region ?_)
    repeat (first | refine RL.w good ?_ | refine RL.k ?_)
    refine RL.nil ?_
    (try simp (disch := omega) only [qA])
    ((repeat refine CWp.seq ?_); refine CWp.region ?_)
    repeat (first | refine RL.w good ?_ | refine RL.k ?_)
    refine RL.nil ?_
    (try simp (disch := omega) only [qA])
    ((repeat refine CWp.seq ?_); refine CWp.cnd good ?_ ?_)
    · intro hc
      simp at hc
    · intro _
      (refine CWp.skip ?_; (try simp (disch := omega) only [qA]))
      by_cases hz : l = []
      · subst hz
        have hld' : ldN (ov h [] [(0, AObj.cells [] false 3)] 1).get ⟨i, o, none⟩ 0 = none ∨ ldN (ov h [] [(0, AObj.cells [] false 3)] 1).get ⟨i, o, none⟩ 0 = some [] := by
          unfold ldN
          simp only [ov_low0 hi, hg, takeN]
          exact .inr rfl
        rcases hld' with hld' | hld'
        all_goals
          ((repeat refine CWp.seq ?_); refine CWp.region ?_)
          repeat (first | refine RL.w good ?_ | refine RL.k ?_)
          refine RL.nil ?_
          (try simp (disch := omega) only [qA])
          (refine CWp.ret ?_; (try simp (disch := omega) only [qA]); refine rtB ?_; (try simp only [oneV]))
          refine ⟨tau h [(0, 0)], ov h [] [(0, .cells [] false 3)] 1, .slice (some ⟨loc h 0, 0, none⟩) 0 0, fades_ov En [(0, 0)] trivial trivial ?_ rfl, ?_, _, rfl, .inr ⟨0, rfl, rfl, .inr ⟨by unfold U; omega, by simp⟩⟩⟩
          · (repeat (refine And.intro ⟨by decide, _, _, rfl, rfl, ?_⟩ ?_; (· (first | exact ⟨_, rfl, flatsFV rfl⟩ | exact ⟨_, rfl, intsFVL _⟩ | (refine ⟨_, rfl, ?_⟩; (repeat (refine ⟨_, _, rfl, ?_, ?_⟩; (· (first | exact rfl | exact SV.fv En (by assumption) | exact ⟨_, rfl, Rn_loc ⟨_, rfl⟩ rfl, rfl, rfl⟩ | exact ⟨_, _, rfl, rfl, rfl⟩ | exact congrArg (Value.int _) (by omega))))); exact rfl))))) <;> exact trivial
          · exact ⟨_, rfl, Rn_loc ⟨_, rfl⟩ rfl, rfl, rfl⟩
      · have hpos : 0 < l.length := List.length_pos_iff.2 hz
        have hld := hld.resolve_left hz
        ((repeat refine CWp.seq ?_); refine CWp.region ?_)
        repeat (first | refine RL.w good ?_ | refine RL.k ?_)
        refine RL.nil ?_
        (try simp (disch := omega) only [qA])
        (refine CWp.ret ?_; (try simp (disch := omega) only [qA]); refine rtB ?_; (try simp only [oneV]))
        refine ⟨tau h [(0, 1)], ov h [] [(0, .cells (ints l) false 3)] 1, .slice (some ⟨loc h 0, 0, none⟩) l.length (U + 1), fades_ov En [(0, 1)] trivial trivial ?_ rfl, ?_, _, rfl, .inr ⟨U + 1, rfl, rfl, .inl rfl⟩⟩
        · (repeat (refine And.intro ⟨by decide, _, _, rfl, rfl, ?_⟩ ?_; (· (first | exact ⟨_, rfl, flatsFV rfl⟩ | exact ⟨_, rfl, intsFVL _⟩ | (refine ⟨_, rfl, ?_⟩; (repeat (refine ⟨_, _, rfl, ?_, ?_⟩; (· (first | exact rfl | exact SV.fv En (by assumption) | exact ⟨_, rfl, Rn_loc ⟨_, rfl⟩ rfl, rfl, rfl⟩ | exact ⟨_, _, rfl, rfl, rfl⟩ | exact congrArg (Value.int _) (by omega))))); exact rfl))))) <;> exact trivial
        · exact ⟨_, rfl, Rn_loc ⟨_, rfl⟩ rfl, rfl, rfl⟩
theorem f69s (v : Value) (l : List Int) (h : Hp) (hv : IsInts h v l) (hl : l.length < 4611686018427387904) : ACalls Tryz.prog 69 [v] (fun e h' => e = .ret (clipV v l.length) ∧ h' = h) h := by
  have hlen := hv.len
  obtain ⟨hcl, hv', hc⟩ := hv.clip (by omega)
  (refine ACalls.bodyB (fn := Tryz.f69) (ng := 4) (N := 9) (res := [.tmp 2]) (by kernel_rfl) rfl rfl rfl (by kernel_rfl) (fun En hs => ?_); simp only [argsL, Nat.reduceAdd])
  have sv := hs _ List.mem_cons_self
  clear hs hc
  ((repeat refine CWp.seq ?_); refine CWp.region ?_)
  repeat (first | refine RL.w good ?_ | refine RL.k ?_)
  refine RL.nil ?_
  (try simp (disch := omega) only [qA])
  ((repeat refine CWp.seq ?_); refine CWp.region ?_)
  repeat (first | refine RL.w good ?_ | refine RL.k ?_)
  refine RL.nil ?_
  (try simp (disch := omega) only [qA])
  (refine CWp.ret ?_; (try simp (disch := omega) only [qA]); refine rtB ?_; (try simp only [oneV]))
  exact EndB.same En hv'.sv ⟨rfl, rfl⟩
end Go.Ab
