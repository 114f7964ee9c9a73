/- A part of the proof of a law over a given program: E6, E7. -/
import Derived.Test.YtckgcmgnpblnaaaGreatDoorT35
set_option linter.unusedVariables false
set_option linter.unusedSimpArgs false
namespace Go.Ab
open Go.Proofs
set_option maxRecDepth 10000
/-- what stays but for X -/
def Kp (X : Nat → Prop) (h h' : Hp) : Prop := h.next ≤ h'.next ∧ ∀ i, i < h.next → ¬ X i → h'.get i = h.get i
theorem Ext.kp {h h' : Hp} (x : Ext h h') (X : Nat → Prop) : Kp X h h' := ⟨x.1, fun i hi _ => x.2 i hi⟩
theorem Kp.ext {h0 h h' : Hp} {X : Nat → Prop} (x : Ext h0 h) (k : Kp X h h') (hX : ∀ i, X i → h0.next ≤ i) : Ext h0 h' :=
  ⟨Nat.le_trans x.1 k.1, fun i hi => (k.2 i (Nat.lt_of_lt_of_le hi x.1) (fun q => by have := hX i q; omega)).trans (x.2 i hi)⟩
theorem Kp.cell {h h' : Hp} {X : Nat → Prop} (k : Kp X h h') {b o : Nat} (hb : b < h.next) (hx : ¬ X b) : cellOf h' b o = cellOf h b o := by unfold cellOf; rw [k.2 b hb hx]
theorem Fr1.kp {h h' : Hp} {E : Nat → Prop} {S : Nat → Nat → Prop} (F : Fr1 h h' E S) {X : Nat → Prop} (hE : ∀ i, E i → X i) (hS : ∀ i o, S i o → X i) : Kp X h h' :=
  ⟨F.nx, fun i hi hx => F.blk i hi (fun q => hx (hE i q)) (fun o q => hx (hS i o q))⟩
theorem Thing.kp {h h' : Hp} {t : SeeTy} {b : Nat} {Z X : Nat → Prop} {ns : List Int} {ss : List ByteArray} (T : Thing h t b Z ns ss) (k : Kp X h h') (hZ : ∀ x, Z x → x < h.next ∧ ¬ X x) : Thing h' t b Z ns ss := by
  have hst : ∀ x y, Foot h t b 0 x y → cellOf h' x y = cellOf h x y := fun a y hf => k.cell (hZ _ (T.foot a y hf)).1 (hZ _ (T.foot a y hf)).2
  have hF : ∀ {x y}, (Foot h' t b 0 x y ↔ Foot h t b 0 x y) := fun {x y} => Foot.hdr fun x y hx => hst x y hx.foot
  exact ⟨T.rep.stay hst, fun x y hf => T.foot x y (hF.1 hf), T.na.hdr fun x y hx => hst x y hx.foot, fun a y hf => by
    obtain ⟨c, e, q⟩ := T.wr a y (hF.1 hf)
    obtain ⟨q1, q2⟩ := hZ _ (T.foot a y (hF.1 hf))
    exact ⟨c, e, by rw [k.2 a q1 q2]; exact q⟩, T.ln, T.ls⟩
theorem Eye.kp {te ti ts : Nat} {h h' : Hp} {be : Nat} {E X : Nat → Prop} {ns : List Int} {ss : List ByteArray} {m : Bool} {a : Int} (e : Eye te ti ts h be E ns ss m a) (k : Kp X h h') (hX : ∀ x, E x → ¬ X x) : Eye te ti ts h' be E ns ss m a := by
  obtain ⟨nv, sv, h1, h2, h3, h4, h5, h6⟩ := e
  have go : ∀ {v cs el}, OwnSl h E be v cs el → OwnSl h' E be v cs el := by
    intro v cs el q
    rcases q with q | ⟨nb, q1, q2, q3, q4, q5⟩
    · exact .inl q
    · exact .inr ⟨nb, q1, Nat.lt_of_lt_of_le q2 k.1, q3, q4, by rw [k.2 nb q2 (hX nb q3)]; exact q5⟩
  exact ⟨nv, sv, by rw [k.2 be h2 (hX be h3)]; exact h1, Nat.lt_of_lt_of_le h2 k.1, h3, go h4, go h5, h6⟩
theorem ACalls.entryR {P : Program} {f : FuncId} {args : List Value} {R : AEnd → Hp → Prop} {h : Hp} (p : ACalls P f args R h) : ACalls P f args (fun e h' => R e h' ∧ Entry P h') h := fun ρ w cs H hv =>
  (p ρ w cs H hv).mono fun en w' ⟨e', ρ', h', k1, k2, k3, k4⟩ => ⟨e', ρ', h', k1, k2, k3, k4, k2.entry⟩
/-- a thing is seen with a new eye -/
theorem SeeOK.step {G : FuncId} {t : SeeTy} (K : SeeOK Tryz.prog 58 3 9 G t) {h : Hp} {b be : Nat} {Z E : Nat → Prop} {ns : List Int} {ss : List ByteArray} {m : Bool} {a0 : Int} (T : Thing h t b Z ns ss) (eye : Eye 58 3 9 h be E [] [] m a0) (hZ : ∀ x, Z x → ¬ E x ∧ x < h.next) (ha : 0 ≤ a0 ∧ a0 ≤ 1000000000) :
    ACalls Tryz.prog G [.pointer (some ⟨be, 0, none⟩), .pointer (some ⟨b, 0, none⟩)] (fun e h' => (e = .ret (.tuple #[]) ∧ ∃ ns' ss' at', Eye 58 3 9 h' be (fun x => E x ∨ (h.next ≤ x ∧ x < h'.next)) ns' ss' m at' ∧ Thing h' t b Z ns' ss' ∧ (m = false → ns' = ns ∧ ss' = ss) ∧ Kp (fun x => E x ∨ (m = true ∧ Z x)) h h') ∧ Entry Tryz.prog h') h := by
  refine ACalls.entryR ((K.calls (T.pre eye hZ (by simp) (by simp) ha)).mono ?_)
  rintro e h' ⟨rfl, ns', ss', at', eye', rp, q, ⟨l1, l2, _, _⟩, hd, F⟩
  have hF : ∀ {x y}, (Foot h' t b 0 x y ↔ Foot h t b 0 x y) := fun {x y} => Foot.hdr hd
  refine ⟨rfl, ns', ss', at', eye', ⟨rp, fun x y hf => T.foot x y (hF.1 hf), T.na.hdr hd, fun x y hf => ?_, by have := T.ln; omega, by have := T.ls; omega⟩, q, F.kp (fun i hi => .inl hi) fun i o ⟨hm, hf⟩ => .inr ⟨hm, T.foot i o hf⟩⟩
  obtain ⟨c, el, q1⟩ := T.wr x y (hF.1 hf)
  obtain ⟨q2, q3⟩ := hZ x (T.foot x y (hF.1 hf))
  obtain ⟨c', q4, _⟩ := F.shp x q3 q2 c false el q1
  exact ⟨c', el, q4⟩
/-- what a look has told: the eye and its blocks lie in a range -/
def LookedR (lo hi : Nat) (h : Hp) (v : Value) : Option (List Int × List ByteArray) → Prop
  | none => ∃ a c, v = .slice a 0 c
  | some (ns, ss) => ∃ eb at', v = .slice (some ⟨eb, 0, none⟩) 1 1 ∧ Eye 58 3 9 h eb (fun x => lo ≤ x ∧ x < hi) ns ss false at'
theorem LookedR.kp {lo hi : Nat} {h h' : Hp} {v : Value} {ob : Option (List Int × List ByteArray)} (l : LookedR lo hi h v ob) {X : Nat → Prop} (k : Kp X h h') (hX : ∀ x, lo ≤ x → x < hi → ¬ X x) : LookedR lo hi h' v ob := by
  cases ob with
  | none => exact l
  | some p => obtain ⟨eb, at', q1, q2⟩ := l; exact ⟨eb, at', q1, q2.kp k fun x hx => hX x hx.1 hx.2⟩
/-- what was answered, with what is seen of it -/
def Res (q1 q2 : Nat) (h : Hp) (v : Value) : Option (List Int × List ByteArray) → Prop
  | none => v = .slice none 0 0
  | some (ns, ss) => ∃ lb gg t b, v = .slice (some ⟨lb, 0, none⟩) 1 1 ∧ q1 ≤ lb ∧ lb < q2 ∧ (∃ ro el, h.get lb = some (.cells [.func (.func gg) #[] #[.pointer (some ⟨b, 0, none⟩)]] ro el)) ∧ Enters Tryz.prog gg ∧ SeeOK Tryz.prog 58 3 9 gg t ∧
      Thing h t b (fun x => q1 ≤ x ∧ x < q2 ∧ x ≠ lb) ns ss
theorem ResL.res {h0 h : Hp} {v : Value} (r : ResL Tryz.prog 58 3 9 h0 h v) : ∃ ob, Res h0.next h.next h v ob := by
  rcases r with r | ⟨lb, gg, t, b, ns, ss, r1, r2, r3, r4, r5, r6, r7⟩
  · exact ⟨none, r⟩
  · exact ⟨some (ns, ss), lb, gg, t, b, r1, r2, r3, r4, r5, r6, r7⟩
theorem Res.kp {q1 q2 : Nat} {h h' : Hp} {v : Value} {ob : Option (List Int × List ByteArray)} (r : Res q1 q2 h v ob) {X : Nat → Prop} (k : Kp X h h') (h2 : q2 ≤ h.next) (hX : ∀ x, q1 ≤ x → x < q2 → ¬ X x) : Res q1 q2 h' v ob := by
  cases ob with
  | none => exact r
  | some p =>
    obtain ⟨lb, gg, t, b, r1, r2, r3, ⟨ro, el, r4⟩, r5, r6, r7⟩ := r
    exact ⟨lb, gg, t, b, r1, r2, r3, ⟨ro, el, by rw [k.2 lb (by omega) (hX lb r2 r3)]; exact r4⟩, r5, r6, r7.kp k fun x hx => ⟨by omega, hX x hx.1 hx.2.1⟩⟩
theorem lookStep {q1 q2 : Nat} {h : Hp} {v : Value} {ob : Option (List Int × List ByteArray)} (r : Res q1 q2 h v ob) (h2 : q2 ≤ h.next) : ACalls Tryz.prog 35 [v] (fun e h' => (∃ w, e = .ret w ∧ LookedR h.next h'.next h' w ob ∧ Ext h h') ∧ Entry Tryz.prog h') h := by
  refine ACalls.entryR ?_
  cases ob with
  | none =>
    cases r
    exact (f35n h).mono fun e h' ⟨w, a, b, c⟩ => ⟨w, a, b, c⟩
  | some p =>
    obtain ⟨lb, gg, t, b, rfl, r2, r3, ⟨ro, el, r4⟩, r5, r6, r7⟩ := r
    exact (f35o h r5 r6 (by omega) r4 r7 (fun x hx => by omega)).mono fun e h' ⟨w, a, b, c⟩ => ⟨w, a, b, c⟩
theorem Eye.len {h : Hp} {be : Nat} {E : Nat → Prop} {ns : List Int} {ss : List ByteArray} {m : Bool} {a : Int} (e : Eye 58 3 9 h be E ns ss m a) : True := trivial
theorem alikeStep {lo hi lo2 hi2 : Nat} {h : Hp} {w1 w2 : Value} {ob : Option (List Int × List ByteArray)} (l1 : LookedR lo hi h w1 ob) (l2 : LookedR lo2 hi2 h w2 ob) (hb : ∀ p, ob = some p → p.1.length ≤ 10000 ∧ p.2.length ≤ 10000) :
    ACalls Tryz.prog 37 [w1, w2, .int .i64 (-1)] (fun e h' => e = .ret (.bool true) ∧ h' = h) h := by
  cases ob with
  | none => obtain ⟨a, c, rfl⟩ := l1; exact f37n h a c w2 (-1)
  | some p =>
    obtain ⟨eb, a1, rfl, e1⟩ := l1
    obtain ⟨eb2, a2, rfl, e2⟩ := l2
    have := hb p rfl
    exact f37o h e1 e2 (by omega) (by omega)
theorem Res.bound {q1 q2 : Nat} {h : Hp} {v : Value} {ob : Option (List Int × List ByteArray)} (r : Res q1 q2 h v ob) : ∀ p, ob = some p → p.1.length ≤ 10000 ∧ p.2.length ≤ 10000 := by
  rintro p rfl
  obtain ⟨lb, gg, t, b, _, _, _, _, _, _, r7⟩ := r
  exact ⟨r7.ln, r7.ls⟩
theorem Eye.same {h : Hp} {b1 b2 : Nat} {E1 E2 : Nat → Prop} {ns : List Int} {ss : List ByteArray} {m1 m2 : Bool} {a1 a2 : Int} (e1 : Eye 58 3 9 h b1 E1 ns ss m1 a1) (e2 : Eye 58 3 9 h b2 E2 ns ss m2 a2) (l1 : ns.length ≤ 10000) (l2 : ss.length ≤ 10000) :
    ∃ nv sv nv2 sv2, h.get b1 = some (.cells [nv, sv, .bool m1, .int .i64 a1] false 58) ∧ h.get b2 = some (.cells [nv2, sv2, .bool m2, .int .i64 a2] false 58) ∧ b1 < h.next ∧ b2 < h.next ∧ (∃ a n c, nv = .slice a n c) ∧ (∃ a n c, sv = .slice a n c) ∧ (∃ a n c, nv2 = .slice a n c) ∧ (∃ a n c, sv2 = .slice a n c) ∧
      ACalls Tryz.prog 36 [.agg #[nv, sv, .bool m1, .int .i64 a1], .agg #[nv2, sv2, .bool m2, .int .i64 a2]] (fun e h' => e = .ret (.bool true) ∧ h' = h) h := by
  obtain ⟨nv1, sv1, g1, b1, _, o1, o2, _⟩ := e1
  obtain ⟨nv2, sv2, g2, b2, _, o3, o4, _⟩ := e2
  have K := f36s (m := m1) (m2 := m2) (a := a1) (a2 := a2) o1.slV o2.slV o3.slV o4.slV (by omega) (by omega)
  have sl : ∀ {v cs}, SlV h v cs → ∃ a n c, v = .slice a n c := fun ⟨a, c, e, _⟩ => ⟨a, _, c, e⟩
  exact ⟨_, _, _, _, g1, g2, b1, b2, sl o1.slV, sl o2.slV, sl o3.slV, sl o4.slV, K⟩
end Go.Ab
namespace Go.Ab
open Go.Proofs
set_option maxRecDepth 10000
attribute [local push_cast] ldN_lowU ov_low takeN_one Option.toList_some Nat.mul_one Nat.add_zero Nat.zero_add goIntI Int.zero_add wrap1
def trObs (ch sp : List Int) (n st p1 p2 : Int) : List Int := seenInts ch ++ ([n] ++ ([st] ++ (seenInts sp ++ ([p1] ++ [p2]))))
theorem trObs_length (ch sp : List Int) (n st p1 p2 : Int) : (trObs ch sp n st p1 p2).length = ch.length + sp.length + 6 := by
  unfold trObs
  simp only [List.length_append, seenInts_length, List.length_cons, List.length_nil]; omega
section
variable {h : Hp} {b : Nat} {chV spV : Value} {ch sp : List Int} {n st p1 p2 : Int} {ro : Bool} {el : Nat}
theorem rep_tr (hg : h.get b = some (.cells [chV, .int .i64 n, .int .i64 st, spV, .int .i64 p1, .int .i64 p2] ro el)) (hch : IsSl 1 h chV (ints ch) ch.length) (hsp : IsSl 1 h spV (ints sp) sp.length) : Rep h tTr b 0 (trObs ch sp n st p1 p2) [] :=
  ⟨_, [], _, [], rep_ints (cellOf_of hg) hch, ⟨_, [], _, [], ⟨n, cellOf_of hg, rfl, rfl⟩, ⟨_, [], _, [], ⟨st, cellOf_of hg, rfl, rfl⟩, ⟨_, [], _, [], rep_ints (cellOf_of hg) hsp, ⟨_, [], _, [], ⟨p1, cellOf_of hg, rfl, rfl⟩, ⟨p2, cellOf_of hg, rfl, rfl⟩, rfl, rfl⟩, rfl, rfl⟩, rfl, rfl⟩, rfl, rfl⟩, rfl, rfl⟩
theorem foot_tr (hg : h.get b = some (.cells [chV, .int .i64 n, .int .i64 st, spV, .int .i64 p1, .int .i64 p2] ro el)) {x y : Nat} (hf : Foot h tTr b 0 x y) : x = b ∨ At chV x ∨ At spV x := by
  rcases hf with hf | hf | hf | hf | hf | hf
  · rcases foot_ints (cellOf_of hg) hf with ⟨q, _⟩ | q
    · exact .inl q
    · exact .inr (.inl q)
  · exact .inl hf.1
  · exact .inl hf.1
  · rcases foot_ints (v := spV) (cellOf_of hg) hf with ⟨q, _⟩ | q
    · exact .inl q
    · exact .inr (.inr q)
  · exact .inl hf.1
  · exact .inl hf.1
theorem na_tr (hg : h.get b = some (.cells [chV, .int .i64 n, .int .i64 st, spV, .int .i64 p1, .int .i64 p2] ro el)) (h1 : ∀ x, At chV x → x ≠ b) (h2 : ∀ x, At spV x → x ≠ b) (h3 : ∀ x, At chV x → ¬ At spV x) : NA h tTr b 0 := by
  have f4 : ∀ {x y}, Foot h (.sl 1 .int) b (0 + 1 + 1 + 1) x y → (x = b ∧ y = 3) ∨ At spV x := fun hf => foot_ints (v := spV) (cellOf_of hg) hf
  refine ⟨na_ints (cellOf_of hg) h1, ⟨trivial, ⟨trivial, ⟨na_ints (v := spV) (cellOf_of hg) h2, ⟨trivial, trivial, ?_⟩, ?_⟩, ?_⟩, ?_⟩, ?_⟩
  · rintro x y ⟨_, a⟩ ⟨_, c⟩; omega
  · intro x y a c
    rcases f4 a with ⟨q, q'⟩ | q
    · rcases c with ⟨_, c⟩ | ⟨_, c⟩ <;> omega
    · have := h2 x q
      rcases c with ⟨c, _⟩ | ⟨c, _⟩ <;> exact this c
  · rintro x y ⟨a, a'⟩ c
    rcases c with c | ⟨_, c⟩ | ⟨_, c⟩
    · rcases f4 c with ⟨q, q'⟩ | q
      · omega
      · exact h2 x q a
    · omega
    · omega
  · rintro x y ⟨a, a'⟩ c
    rcases c with ⟨_, c⟩ | c | ⟨_, c⟩ | ⟨_, c⟩
    · omega
    · rcases f4 c with ⟨q, q'⟩ | q
      · omega
      · exact h2 x q a
    · omega
    · omega
  · intro x y a c
    rcases foot_ints (cellOf_of hg) a with ⟨a, a'⟩ | a
    · rcases c with ⟨_, c⟩ | ⟨_, c⟩ | c | ⟨_, c⟩ | ⟨_, c⟩
      · omega
      · omega
      · rcases f4 c with ⟨q, q'⟩ | q
        · omega
        · exact h2 x q a
      · omega
      · omega
    · have := h1 x a
      rcases c with ⟨c, _⟩ | ⟨c, _⟩ | c | ⟨c, _⟩ | ⟨c, _⟩
      · exact this c
      · exact this c
      · rcases f4 c with ⟨q, q'⟩ | q
        · exact this q
        · exact h3 x a q
      · exact this c
      · exact this c
end
theorem IsInts.ext {h h' : Hp} {v : Value} {l : List Int} (i : IsInts h v l) (x : Ext h h') : IsInts h' v l := by
  refine IsSl.ints ⟨i.sl.1, ?_⟩
  rcases i.sl.2 with q | ⟨i, o, c, ob, ro, e, q1, q2, q3, q4⟩
  · exact .inl q
  · exact .inr ⟨i, o, c, ob, ro, e, q1, Nat.lt_of_lt_of_le q2 x.1, by rw [x.2 i q2]; exact q3, q4⟩
/-- the copy of the arguments in its cell -/
theorem thing_tr {hh h3 : Hp} {c2 s2 : Value} {ch sp : List Int} {n st p1 p2 : Int} (x : Ext hh h3) (m1 : NewInts hh h3 c2 ch) (m2 : NewInts hh h3 s2 sp) (hd : ∀ x, At c2 x → ¬ At s2 x) (l1 : ch.length ≤ 1000) (l2 : sp.length ≤ 1000) :
    Thing (Ab.ov h3 [] [(0, .cells [c2, .int .i64 n, .int .i64 st, s2, .int .i64 p1, .int .i64 p2] false 26)] 1) tTr (loc h3 0) (fun x => hh.next ≤ x ∧ x < loc h3 1) (trObs ch sp n st p1 p2) [] := by
  have hg : (Ab.ov h3 [] [(0, AObj.cells [c2, .int .i64 n, .int .i64 st, s2, .int .i64 p1, .int .i64 p2] false 26)] 1).get (loc h3 0) = some (.cells [c2, .int .i64 n, .int .i64 st, s2, .int .i64 p1, .int .i64 p2] false 26) := by rw [ov_loc]; rfl
  have hl : loc h3 0 = h3.next := by unfold loc; rfl
  have hl1 : loc h3 1 = h3.next + 1 := by unfold loc; rfl
  have e4 : Ext h3 (Ab.ov h3 [] [(0, AObj.cells [c2, .int .i64 n, .int .i64 st, s2, .int .i64 p1, .int .i64 p2] false 26)] 1) := .ov
  have i1 : IsSl 1 _ c2 (ints ch) ch.length := (m1.is.ints.ext e4).sl
  have i2 : IsSl 1 _ s2 (ints sp) sp.length := (m2.is.ints.ext e4).sl
  refine ⟨rep_tr hg i1 i2, fun y z hf => ?_, na_tr hg (fun y a => by have := m1.at a; omega) (fun y a => by have := m2.at a; omega) hd, fun y z hf => ?_, by rw [trObs_length]; omega, by simp⟩
  · have := x.1
    rcases foot_tr hg hf with q | q | q
    · omega
    · have := m1.at q; omega
    · have := m2.at q; omega
  · rcases foot_tr hg hf with rfl | q | q
    · exact ⟨_, _, hg⟩
    · have := m1.at q; exact ⟨_, _, by rw [e4.2 y this.2.1]; exact this.2.2⟩
    · have := m2.at q; exact ⟨_, _, by rw [e4.2 y this.2.1]; exact this.2.2⟩
end Go.Ab
