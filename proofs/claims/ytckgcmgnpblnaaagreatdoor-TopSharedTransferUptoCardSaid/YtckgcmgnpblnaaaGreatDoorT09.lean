/- A part of the proof of a law over a given program: Gc, Pl. -/
import Derived.Test.YtckgcmgnpblnaaaGreatDoorT07
import Derived.Test.YtckgcmgnpblnaaaGreatDoorT08
set_option linter.unusedVariables false
set_option linter.unusedSimpArgs false
/- Objects that are given up, and others under new numbers: what is proved of the lesser heap holds in the greater one. -/
namespace Go.Ab
open Go.RowKit
section
variable (R : Nat → Nat → Prop)
mutual
/-- a value under new numbers (R: new, old); an unknown one stands for each -/
def FV : Value → Value → Prop
  | .pointer (some a), v => ∃ b, v = .pointer (some b) ∧ R a.block b.block ∧ a.off = b.off ∧ a.spot = b.spot
  | .slice (some a) n k, v => ∃ b, v = .slice (some b) n k ∧ R a.block b.block ∧ a.off = b.off ∧ a.spot = b.spot
  | .map (some r), v => ∃ r', v = .map (some r') ∧ R r r'
  | .func f x y, v => ∃ x' y', v = .func f x' y' ∧ FVA x x' ∧ FVA y y'
  | .iface t u, v => ∃ u', v = .iface t u' ∧ FV u u'
  | .agg cs, v => ∃ cs', v = .agg cs' ∧ FVA cs cs'
  | .tuple cs, v => ∃ cs', v = .tuple cs' ∧ FVA cs cs'
  | .chan (some _), _ => True
  | u, v => v = u
def FVA : Array Value → Array Value → Prop
  | ⟨l⟩, c => FVL l c.toList
def FVL : List Value → List Value → Prop
  | [], c => c = []
  | u :: l, c => ∃ v l', c = v :: l' ∧ FV u v ∧ FVL l l'
end
def FE : List (Value × Value × Nat) → List (Value × Value × Nat) → Prop
  | [], l => l = []
  | (k, v, b) :: es, l => ∃ k' v' l', l = (k', v', b) :: l' ∧ FV R k k' ∧ FV R v v' ∧ FE es l'
def FO : AObj → AObj → Prop
  | .cells c ro e, o => ∃ c', o = .cells c' ro e ∧ FVL R c c'
  | .map es clock, o => ∃ es', o = .map es' clock ∧ FE R es es'
  | .iter m since seen stepped, o => ∃ m', o = .iter m' since seen stepped ∧ (match m with | none => m' = none | some r => ∃ r', m' = some r' ∧ R r r')
  | .siter s pos, o => o = .siter s pos
  | .loop k L T, o => ∃ T', o = .loop k L T' ∧ ∀ t, FV R (T t) (T' t)
  | .dead, _ => True
end
section
variable {R R' : Nat → Nat → Prop}
mutual
theorem FV.mono (h : ∀ i j, R i j → R' i j) : ∀ (u v : Value), FV R u v → FV R' u v
  | .pointer (some a), v, ⟨b, h1, h2, h3⟩ => ⟨b, h1, h _ _ h2, h3⟩
  | .slice (some a) n k, v, ⟨b, h1, h2, h3⟩ => ⟨b, h1, h _ _ h2, h3⟩
  | .map (some r), v, ⟨b, h1, h2⟩ => ⟨b, h1, h _ _ h2⟩
  | .func f x y, v, ⟨x', y', h1, h2, h3⟩ => ⟨x', y', h1, FVA.mono h x x' h2, FVA.mono h y y' h3⟩
  | .iface t u, v, ⟨u', h1, h2⟩ => ⟨u', h1, FV.mono h u u' h2⟩
  | .agg cs, v, ⟨c', h1, h2⟩ => ⟨c', h1, FVA.mono h cs c' h2⟩
  | .tuple cs, v, ⟨c', h1, h2⟩ => ⟨c', h1, FVA.mono h cs c' h2⟩
  | .chan (some _), _, _ => trivial
  | .chan none, _, hv => hv
  | .pointer none, _, hv => hv
  | .slice none _ _, _, hv => hv
  | .map none, _, hv => hv
  | .int _ _, _, hv => hv
  | .bool _, _, hv => hv
  | .string _, _, hv => hv
  | .float _ _, _, hv => hv
  | .complex _ _ _, _, hv => hv
  | .nilFunc, _, hv => hv
  | .nilIface, _, hv => hv
theorem FVA.mono (h : ∀ i j, R i j → R' i j) : ∀ (x c : Array Value), FVA R x c → FVA R' x c
  | ⟨l⟩, c, hv => FVL.mono h l c.toList hv
theorem FVL.mono (h : ∀ i j, R i j → R' i j) : ∀ (l c : List Value), FVL R l c → FVL R' l c
  | [], _, hv => hv
  | u :: l, c, ⟨v, l', h1, h2, h3⟩ => ⟨v, l', h1, FV.mono h u v h2, FVL.mono h l l' h3⟩
end
mutual
/-- what lies in the world under the old numbers lies there under the new ones -/
theorem FV.vr {ρ ρ' : Ren} (h : ∀ i j l, R i j → ρ j = some l → ρ' i = some l) : ∀ (u v c : Value), FV R u v → VR ρ v c → VR ρ' u c
  | .pointer (some a), v, c, ⟨b, h1, h2, h3, h4⟩, hv => by subst h1; obtain ⟨l, k1, k2, k3⟩ := hv; exact ⟨l, h _ _ _ h2 k1, h4.trans k2, by rw [h3]; exact k3⟩
  | .slice (some a) n k, v, c, ⟨b, h1, h2, h3, h4⟩, hv => by subst h1; obtain ⟨l, k1, k2, k3⟩ := hv; exact ⟨l, h _ _ _ h2 k1, h4.trans k2, by rw [h3]; exact k3⟩
  | .map (some r), v, c, ⟨b, h1, h2⟩, hv => by subst h1; obtain ⟨l, k1, k2⟩ := hv; exact ⟨l, h _ _ _ h2 k1, k2⟩
  | .func f x y, v, c, ⟨x', y', h1, h2, h3⟩, hv => by subst h1; obtain ⟨x2, y2, k1, k2, k3⟩ := hv; exact ⟨x2, y2, k1, FVA.vr h x x' x2 h2 k2, FVA.vr h y y' y2 h3 k3⟩
  | .iface t u, v, c, ⟨u', h1, h2⟩, hv => by subst h1; obtain ⟨c', k1, k2⟩ := hv; exact ⟨c', k1, FV.vr h u u' c' h2 k2⟩
  | .agg cs, v, c, ⟨c', h1, h2⟩, hv => by subst h1; obtain ⟨c2, k1, k2⟩ := hv; exact ⟨c2, k1, FVA.vr h cs c' c2 h2 k2⟩
  | .tuple cs, v, c, ⟨c', h1, h2⟩, hv => by subst h1; obtain ⟨c2, k1, k2⟩ := hv; exact ⟨c2, k1, FVA.vr h cs c' c2 h2 k2⟩
  | .chan (some _), _, _, _, _ => trivial
  | .chan none, _, _, hf, hv => by cases hf; exact hv
  | .pointer none, _, _, hf, hv => by cases hf; exact hv
  | .slice none _ _, _, _, hf, hv => by cases hf; exact hv
  | .map none, _, _, hf, hv => by cases hf; exact hv
  | .int _ _, _, _, hf, hv => by cases hf; exact hv
  | .bool _, _, _, hf, hv => by cases hf; exact hv
  | .string _, _, _, hf, hv => by cases hf; exact hv
  | .float _ _, _, _, hf, hv => by cases hf; exact hv
  | .complex _ _ _, _, _, hf, hv => by cases hf; exact hv
  | .nilFunc, _, _, hf, hv => by cases hf; exact hv
  | .nilIface, _, _, hf, hv => by cases hf; exact hv
theorem FVA.vr {ρ ρ' : Ren} (h : ∀ i j l, R i j → ρ j = some l → ρ' i = some l) : ∀ (x y c : Array Value), FVA R x y → VRA ρ y c → VRA ρ' x c
  | ⟨l⟩, ⟨m⟩, c, hf, hv => FVL.vr h l m c.toList hf hv
theorem FVL.vr {ρ ρ' : Ren} (h : ∀ i j l, R i j → ρ j = some l → ρ' i = some l) : ∀ (x y c : List Value), FVL R x y → VRL ρ y c → VRL ρ' x c
  | [], _, _, hf, hv => by cases hf; exact hv
  | u :: l, _, _, ⟨v, l', h1, h2, h3⟩, hv => by subst h1; obtain ⟨c', m, k1, k2, k3⟩ := hv; exact ⟨c', m, k1, FV.vr h u v c' h2 k2, FVL.vr h l l' m h3 k3⟩
end
theorem FVL.length : ∀ {l m : List Value}, FVL R l m → l.length = m.length
  | [], _, h => by cases h; rfl
  | u :: l, _, ⟨v, l', h1, h2, h3⟩ => by subst h1; simp [FVL.length h3]
theorem FVL.get : ∀ {l m : List Value}, FVL R l m → ∀ (i : Nat) (u : Value), l[i]? = some u → ∃ v, m[i]? = some v ∧ FV R u v
  | [], _, _, i, u, hi => by simp at hi
  | x :: l, _, ⟨v, l', h1, h2, h3⟩, i, u, hi => by
    subst h1
    cases i with
    | zero => simp at hi; subst hi; exact ⟨v, by simp, h2⟩
    | succ i => simp at hi; obtain ⟨c, h4, h5⟩ := FVL.get h3 i u hi; exact ⟨c, by simpa using h4, h5⟩
theorem FE.er {ρ ρ' : Ren} (h : ∀ i j l, R i j → ρ j = some l → ρ' i = some l) : ∀ {es es' : List (Value × Value × Nat)} {l : List MapEntry}, FE R es es' → ER ρ es' l → ER ρ' es l
  | [], _, _, hf, hv => by cases hf; exact hv
  | (k, v, b) :: es, _, _, ⟨k', v', l', h1, h2, h3, h4⟩, hv => by
    subst h1
    obtain ⟨k2, v2, l2, j1, j2, j3, j4⟩ := hv
    exact ⟨k2, v2, l2, j1, FV.vr h _ _ _ h2 j2, FV.vr h _ _ _ h3 j3, FE.er h h4 j4⟩
theorem FO.or {ρ ρ' : Ren} (h : ∀ i j l, R i j → ρ j = some l → ρ' i = some l) {w : World} {l : Loc} : ∀ {o o' : AObj}, FO R o o' → OR ρ w l o' → OR ρ' w l o
  | .cells c ro e, _, ⟨c', h1, h2⟩, hv => by
    subst h1
    obtain ⟨cc, fr, k1, k2, k3, k4, k5⟩ := hv
    refine ⟨cc, fr, k1, by rw [h2.length]; exact k2, k3, k4, fun j u hj => ?_⟩
    obtain ⟨v, m1, m2⟩ := h2.get j u hj
    obtain ⟨v', m3, m4⟩ := k5 j v m1
    exact ⟨v', m3, FV.vr h _ _ _ m2 m4⟩
  | .map es clock, _, ⟨es', h1, h2⟩, hv => by
    subst h1
    obtain ⟨cs, k1, k2⟩ := hv
    exact ⟨cs, k1, FE.er h h2 k2⟩
  | .iter m since seen stepped, _, ⟨m', h1, h2⟩, hv => by
    subst h1
    obtain ⟨h0, m2, k1, k2⟩ := hv
    refine ⟨h0, m2, k1, ?_⟩
    cases m with
    | none => simp only at h2; subst h2; exact k2
    | some r => obtain ⟨r', j1, j2⟩ := h2; subst j1; obtain ⟨l', a, b⟩ := k2; exact ⟨l', h _ _ _ j2 a, b⟩
  | .siter s pos, _, hf, hv => by cases hf; exact hv
  | .loop k L T, _, ⟨T', h1, h2⟩, hv => by
    subst h1
    exact ⟨hv.1, hv.2.1, hv.2.2.1, fun t => FV.vr h _ _ _ (h2 t) (hv.2.2.2 t)⟩
  | .dead, _, _, _ => trivial
theorem FO.wr {o o' : AObj} (h : FO R o o') (hw : o.wr = true) : o'.wr = true := by
  cases o with
  | cells c ro e => obtain ⟨c', rfl, _⟩ := h; exact hw
  | map es clock => obtain ⟨_, rfl, _⟩ := h; rfl
  | iter m a b c => obtain ⟨_, rfl, _⟩ := h; rfl
  | siter s p => cases h; rfl
  | loop k L T => obtain ⟨_, rfl, _⟩ := h; rfl
  | dead => cases hw
theorem FO.alive {o o' : AObj} (h : FO R o o') (hw : o.alive = true) : o'.alive = true := by
  cases o with
  | cells c ro e => obtain ⟨c', rfl, _⟩ := h; rfl
  | map es clock => obtain ⟨_, rfl, _⟩ := h; rfl
  | iter m a b c => obtain ⟨_, rfl, _⟩ := h; rfl
  | siter s p => cases h; rfl
  | loop k L T => obtain ⟨_, rfl, _⟩ := h; rfl
  | dead => cases hw
end
/-- the numbers of the lesser heap, and what they were -/
def Rt (τ : Nat → Nat) (h' : Hp) (i j : Nat) : Prop := h'.get i ≠ none ∧ τ i = j
structure Fades (P : Program) (B : Nat) (τ : Nat → Nat) (h h' : Hp) : Prop where
  low : ∀ i, i < B → τ i = i
  inj : ∀ i j, h'.get i ≠ none → h'.get j ≠ none → τ i = τ j → i = j
  ob : ∀ i o', h'.get i = some o' → ∃ o, h.get (τ i) = some o ∧ FO (Rt τ h') o' o
  lt : ∀ i, h'.get i ≠ none → i < h'.next
  nx : B ≤ h'.next
  dom : ∀ i, i < B → h.get i ≠ none → h'.get i ≠ none
  gl : P.globals.size ≤ B
section
variable {P : Program} {B : Nat} {τ : Nat → Nat} {h h' : Hp} {ρ : Ren} {w : World}
def Ren.fade (ρ : Ren) (τ : Nat → Nat) (h' : Hp) : Ren := fun i => match h'.get i with | some _ => ρ (τ i) | none => none
theorem Ren.fade_some {i : Nat} {l : Loc} (e : ρ.fade τ h' i = some l) : h'.get i ≠ none ∧ ρ (τ i) = some l := by
  unfold Ren.fade at e
  split at e
  · rename_i hi; exact ⟨by rw [hi]; simp, e⟩
  · cases e
theorem Ren.fade_of {i : Nat} {l : Loc} (hi : h'.get i ≠ none) (e : ρ (τ i) = some l) : ρ.fade τ h' i = some l := by
  unfold Ren.fade
  cases hh : h'.get i with
  | none => exact absurd hh hi
  | some o => exact e
theorem Fades.rt (i j : Nat) (l : Loc) (hr : Rt τ h' i j) (e : ρ j = some l) : ρ.fade τ h' i = some l := by
  obtain ⟨h1, rfl⟩ := hr
  exact Ren.fade_of h1 e
theorem Fades.hr (F : Fades P B τ h h') (H : HR P ρ h w) : HR P (ρ.fade τ h') h' w where
  lt := F.lt
  dom := fun i l hi => by obtain ⟨a, b⟩ := Ren.fade_some hi; exact ⟨a, H.lt_of b⟩
  live := fun i o' hi => by
    obtain ⟨o, h1, h2⟩ := F.ob i o' hi
    obtain ⟨l, h3, h4⟩ := H.live _ o h1
    exact ⟨l, Ren.fade_of (by rw [hi]; simp) h3, FO.or Fades.rt h2 h4⟩
  inj := fun i j o o' l l' hi hj hne hw ha hli hlj => by
    obtain ⟨o1, h1, h2⟩ := F.ob i o hi
    obtain ⟨o2, h3, h4⟩ := F.ob j o' hj
    obtain ⟨_, h5⟩ := Ren.fade_some hli
    obtain ⟨_, h6⟩ := Ren.fade_some hlj
    exact H.inj _ _ _ _ _ _ h1 h3 (fun e => hne (F.inj i j (by rw [hi]; simp) (by rw [hj]; simp) e)) (h2.wr hw) (h4.alive ha) h5 h6
  glob := fun g hg => by
    obtain ⟨l, h1, h2⟩ := H.glob g hg
    have hgB := Nat.lt_of_lt_of_le hg F.gl
    exact ⟨l, Ren.fade_of (F.dom g hgB (H.dom g l h1).1) (by rw [F.low g hgB]; exact h1), h2⟩
theorem Fades.fr (F : Fades P B τ h h') (H : HR P ρ h w) : Fr B ρ h w (ρ.fade τ h') h' w where
  le := fun i hi l e => Ren.fade_of (F.dom i hi (H.dom i l e).1) (by rw [F.low i hi]; exact e)
  os := rfl
  tape := rfl
  output := rfl
  size := Nat.le_refl _
  nxt := by have := F.nx; omega
  block := fun _ _ _ => rfl
  own := fun b _ ⟨i, o, l, h1, h2, h3, h4⟩ => by
    obtain ⟨o1, k1, k2⟩ := F.ob i o h1
    exact ⟨τ i, o1, l, k1, k2.wr h2, (Ren.fade_some h3).2, h4⟩
  held := fun b _ ⟨i, o, l, h1, h2, h3, h4⟩ => by
    obtain ⟨o1, k1, k2⟩ := F.ob i o h1
    exact ⟨τ i, o1, l, k1, k2.alive h2, (Ren.fade_some h3).2, h4⟩
  keep := fun i hi hn => by
    cases e : h'.get i with
    | none => rfl
    | some o' =>
      obtain ⟨o, h1, _⟩ := F.ob i o' e
      rw [F.low i hi, hn] at h1
      cases h1
end
/-- a value whose objects are all there -/
def SV (h : Hp) (v : Value) : Prop := FV (fun i j => i = j ∧ h.get i ≠ none) v v
def SO (h : Hp) (o : AObj) : Prop := FO (fun i j => i = j ∧ h.get i ≠ none) o o
def Shut (h : Hp) : Prop := ∀ i o, h.get i = some o → SO h o
section
variable {P : Program} {ρ : Ren} {h : Hp} {w : World}
mutual
theorem SV.of_vr (H : HR P ρ h w) : ∀ (v c : Value), VR ρ v c → SV h v
  | .pointer (some a), c, ⟨l, h1, _⟩ => ⟨a, rfl, ⟨rfl, (H.dom _ l h1).1⟩, rfl, rfl⟩
  | .slice (some a) n k, c, ⟨l, h1, _⟩ => ⟨a, rfl, ⟨rfl, (H.dom _ l h1).1⟩, rfl, rfl⟩
  | .map (some r), c, ⟨l, h1, _⟩ => ⟨r, rfl, rfl, (H.dom _ l h1).1⟩
  | .func f x y, c, ⟨x', y', h1, h2, h3⟩ => ⟨x, y, rfl, SVA.of_vr H x x' h2, SVA.of_vr H y y' h3⟩
  | .iface t u, c, ⟨u', h1, h2⟩ => ⟨u, rfl, SV.of_vr H u u' h2⟩
  | .agg cs, c, ⟨c', h1, h2⟩ => ⟨cs, rfl, SVA.of_vr H cs c' h2⟩
  | .tuple cs, c, ⟨c', h1, h2⟩ => ⟨cs, rfl, SVA.of_vr H cs c' h2⟩
  | .chan (some _), _, _ => trivial
  | .chan none, _, _ => rfl
  | .pointer none, _, _ => rfl
  | .slice none _ _, _, _ => rfl
  | .map none, _, _ => rfl
  | .int _ _, _, _ => rfl
  | .bool _, _, _ => rfl
  | .string _, _, _ => rfl
  | .float _ _, _, _ => rfl
  | .complex _ _ _, _, _ => rfl
  | .nilFunc, _, _ => rfl
  | .nilIface, _, _ => rfl
theorem SVA.of_vr (H : HR P ρ h w) : ∀ (x c : Array Value), VRA ρ x c → FVA (fun i j => i = j ∧ h.get i ≠ none) x x
  | ⟨l⟩, c, hv => SVL.of_vr H l c.toList hv
theorem SVL.of_vr (H : HR P ρ h w) : ∀ (x c : List Value), VRL ρ x c → FVL (fun i j => i = j ∧ h.get i ≠ none) x x
  | [], _, _ => rfl
  | u :: l, _, ⟨v, l', h1, h2, h3⟩ => ⟨u, l, rfl, SV.of_vr H u v h2, SVL.of_vr H l l' h3⟩
end
theorem SVL.of_get : ∀ {l : List Value}, (∀ (j : Nat) (v : Value), l[j]? = some v → SV h v) → FVL (fun i j => i = j ∧ h.get i ≠ none) l l
  | [], _ => rfl
  | v :: l, k => ⟨v, l, rfl, k 0 v (by simp), SVL.of_get fun j v hj => k (j + 1) v (by simpa using hj)⟩
theorem SE.of_er (H : HR P ρ h w) : ∀ {es : List (Value × Value × Nat)} {l : List MapEntry}, ER ρ es l → FE (fun i j => i = j ∧ h.get i ≠ none) es es
  | [], _, _ => rfl
  | (k, v, b) :: es, _, ⟨k', v', l', h1, h2, h3, h4⟩ => ⟨k, v, es, rfl, SV.of_vr H k k' h2, SV.of_vr H v v' h3, SE.of_er H h4⟩
theorem HR.shut (H : HR P ρ h w) : Shut h := fun i o hi => by
  obtain ⟨l, h1, h2⟩ := H.live i o hi
  cases o with
  | cells c ro e =>
    obtain ⟨cc, fr, k1, k2, k3, k4, k5⟩ := h2
    exact ⟨c, rfl, SVL.of_get fun j v hj => by obtain ⟨v', m1, m2⟩ := k5 j v hj; exact SV.of_vr H v v' m2⟩
  | map es clock => obtain ⟨es', k1, k2⟩ := h2; exact ⟨es, rfl, SE.of_er H k2⟩
  | iter m a b c =>
    obtain ⟨_, m', k1, k2⟩ := h2
    refine ⟨m, rfl, ?_⟩
    cases m with
    | none => rfl
    | some r => obtain ⟨l', j1, j2⟩ := k2; exact ⟨r, rfl, rfl, (H.dom r l' j1).1⟩
  | siter s p => rfl
  | loop k L T => exact ⟨T, rfl, fun t => SV.of_vr H _ _ (h2.2.2.2 t)⟩
  | dead => trivial
end
/- code, from a heap of which the objects behind B are the code's own -/
section
variable (P : Program) (B N : Nat)
def PostB (ρ : Ren) (h : Hp) (w : World) (D : List Deferred) (Q : APost) : Exit → Act → World → Prop := fun e a' w' =>
  ∃ e' ρ' T' h', ExR ρ' e' e ∧ HR P ρ' h' w' ∧ Fr B ρ h w ρ' h' w' ∧ TR ρ' T' N a' ∧ a'.defers = D ∧ Q e' T' h'
def BWp (c : Code) (Q : APost) (T : Nat → Value) (h : Hp) : Prop :=
  B ≤ h.next → ∀ r ρ w a, HR P ρ h w → TR ρ T N a → c.wpIn (FR r) 0 P (PostB P B N ρ h w a.defers Q) a w
end
section
variable {P : Program} {B N : Nat} {Q Q' : APost} {T : Nat → Value} {h : Hp}
theorem Fr.nextB {ρ ρ' : Ren} {h h' : Hp} {w w' : World} (F : Fr B ρ h w ρ' h' w') (hB : B ≤ h.next) : B ≤ h'.next := by have := F.nxt; omega
theorem PostB.trans {ρ ρ1 : Ren} {h1 : Hp} {w w1 : World} {D : List Deferred} {e : Exit} {a' : Act} {w' : World} (F : Fr B ρ h w ρ1 h1 w1) (p : PostB P B N ρ1 h1 w1 D Q e a' w') : PostB P B N ρ h w D Q e a' w' := by
  obtain ⟨e', ρ', T', h', p1, p2, p3, p4, p5, p6⟩ := p
  exact ⟨e', ρ', T', h', p1, p2, F.trans p3 (Nat.le_refl _), p4, p5, p6⟩
theorem BWp.of {c : Code} (p : AWp P N c Q T h) : BWp P B N c Q T h := fun hB r ρ w a H ht => wpIn_mono (p r ρ w a H ht) fun _ _ _ ⟨e', ρ', T', h', p1, p2, p3, p4, p5, p6⟩ => ⟨e', ρ', T', h', p1, p2, p3.mono hB, p4, p5, p6⟩
theorem BWp.mono {c : Code} (hq : ∀ e T h, Q e T h → Q' e T h) (p : BWp P B N c Q T h) : BWp P B N c Q' T h := fun hB r ρ w a H ht =>
  wpIn_mono (p hB r ρ w a H ht) fun _ _ _ ⟨e', ρ', T', h', p1, p2, p3, p4, p5, p6⟩ => ⟨e', ρ', T', h', p1, p2, p3, p4, p5, hq _ _ _ p6⟩
/-- from the lesser heap -/
theorem BWp.fade {c : Code} {τ : Nat → Nat} {T' : Nat → Value} {h' : Hp} (F : Fades P B τ h h') (ft : ∀ t, FV (Rt τ h') (T' t) (T t)) (p : BWp P B N c Q T' h') : BWp P B N c Q T h := fun _ r ρ w a H ht =>
  wpIn_mono (p F.nx r (ρ.fade τ h') w a (F.hr H) ⟨ht.1, fun t => FV.vr Fades.rt _ _ _ (ft t) (ht.2 t)⟩) fun _ _ _ q => q.trans (F.fr H)
theorem BWp.skip (q : Q .normal T h) : BWp P B N .skip Q T h := .of (.skip q)
theorem BWp.label {l : Nat} (q : Q .normal T h) : BWp P B N (.label l) Q T h := .of (.label q)
theorem BWp.exit {i : Nat} (q : Q (.exit i) T h) : BWp P B N (.exit i) Q T h := .of (.exit q)
theorem BWp.goto {i : Nat} (q : Q (.goto i) T h) : BWp P B N (.goto i) Q T h := .of (.goto q)
theorem BWp.ret (q : Q .ret T h) : BWp P B N .ret Q T h := .of (.ret q)
theorem PostB.then {ρ : Ren} {w : World} {D : List Deferred} {e : Exit} {a' : Act} {w' : World} {K : (Nat → Value) → Hp → Prop} {R : Act → World → Prop}
    (hk : ∀ ρ1 T1 h1 a1 w1, HR P ρ1 h1 w1 → Fr B ρ h w ρ1 h1 w1 → TR ρ1 T1 N a1 → a1.defers = D → K T1 h1 → R a1 w1)
    (p : PostB P B N ρ h w D (thenA K Q) e a' w') : Exit.then R (PostB P B N ρ h w D Q) e a' w' := by
  obtain ⟨e', ρ', T', h', p1, p2, p3, p4, p5, p6⟩ := p
  cases e' with
  | normal => cases p1; exact hk _ _ _ _ _ p2 p3 p4 p5 p6
  | exit n => cases p1; exact ⟨.exit n, ρ', T', h', rfl, p2, p3, p4, p5, p6⟩
  | goto n => cases p1; exact ⟨.goto n, ρ', T', h', rfl, p2, p3, p4, p5, p6⟩
  | ret => cases p1; exact ⟨.ret, ρ', T', h', rfl, p2, p3, p4, p5, p6⟩
  | panic v => obtain ⟨c, rfl, p7⟩ := p1; exact ⟨.panic v, ρ', T', h', ⟨c, rfl, p7⟩, p2, p3, p4, p5, p6⟩
theorem BWp.seq {x y : Code} (p : BWp P B N x (thenA (fun T h => BWp P B N y Q T h) Q) T h) : BWp P B N (.seq x y) Q T h := fun hB r ρ w a H ht =>
  wpIn_seq (wpIn_mono (p hB r ρ w a H ht) fun _ _ _ q => q.then fun _ _ _ a1 _ H1 F1 t1 d1 k1 => by
    have := k1 (F1.nextB hB) r _ _ a1 H1 t1
    rw [d1] at this
    exact wpIn_mono this fun _ _ _ q => q.trans F1)
theorem BWp.block {i : Nat} {c : Code} (p : BWp P B N c (blockA i Q) T h) : BWp P B N (.block i c) Q T h := fun hB r ρ w a H ht =>
  wpIn_block (wpIn_mono (p hB r ρ w a H ht) fun e a' w' q => by
    obtain ⟨e', ρ', T', h', p1, p2, p3, p4, p5, p6⟩ := q
    cases e' with
    | exit j =>
      cases p1
      simp only [blockA] at p6
      cases hb : Nat.beq j i with
      | true =>
        rw [hb] at p6
        have := Nat.eq_of_beq_eq_true hb
        simp only [Exit.inBlock, if_pos this]
        exact ⟨.normal, ρ', T', h', rfl, p2, p3, p4, p5, p6⟩
      | false =>
        rw [hb] at p6
        have := Nat.ne_of_beq_eq_false hb
        simp only [Exit.inBlock, if_neg this]
        exact ⟨.exit j, ρ', T', h', rfl, p2, p3, p4, p5, p6⟩
    | normal => cases p1; exact ⟨.normal, ρ', T', h', rfl, p2, p3, p4, p5, p6⟩
    | goto n => cases p1; exact ⟨.goto n, ρ', T', h', rfl, p2, p3, p4, p5, p6⟩
    | ret => cases p1; exact ⟨.ret, ρ', T', h', rfl, p2, p3, p4, p5, p6⟩
    | panic v => obtain ⟨c, rfl, p7⟩ := p1; exact ⟨.panic v, ρ', T', h', ⟨c, rfl, p7⟩, p2, p3, p4, p5, p6⟩)
theorem BWp.cond {ng : Nat} (hng : ng ≤ P.globals.size) {c : Operand} {x y : Code} {t : Bool} (hok : okO ng c = true) (hc : evo T c = .bool t) (p1 : t = true → BWp P B N x Q T h) (p2 : t = false → BWp P B N y Q T h) : BWp P B N (.cond c x y) Q T h := fun hB r ρ w a H ht => by
  have hv := evo_sound H hng ht hok
  rw [hc] at hv
  refine wpIn_cond (VR.bool hv) ?_
  cases t with
  | true => exact p1 rfl hB r ρ w a H ht
  | false => exact p2 rfl hB r ρ w a H ht
/-- the heap and the temporaries come to others that know less -/
def FadesTo (P : Program) (B : Nat) (T : Nat → Value) (h : Hp) (T' : Nat → Value) (h' : Hp) : Prop := ∃ τ, Fades P B τ h h' ∧ ∀ t, FV (Rt τ h') (T' t) (T t)
theorem BWp.fadeTo {c : Code} {T' : Nat → Value} {h' : Hp} (F : FadesTo P B T h T' h') (p : BWp P B N c Q T' h') : BWp P B N c Q T h := by
  obtain ⟨τ, F, ft⟩ := F
  exact p.fade F ft
theorem rounds_mono {r : Option Nat} {c : Code} {Q Q' : Exit → Act → World → Prop} (hq : ∀ e a w, Q e a w → Q' e a w) : ∀ (n : Nat) {a : Act} {w : World}, Code.roundsIn (FR r) 0 P c Q n a w → Code.roundsIn (FR r) 0 P c Q' n a w
  | 0, _, _, h => h
  | n + 1, a, w, h => wpIn_mono (roundsIn_succ ▸ h : c.wpIn (FR r) 0 P (Exit.then (Code.roundsIn (FR r) 0 P c Q n) Q) a w) fun e a' w' q => by
    cases e <;> first | exact rounds_mono hq n q | exact hq _ _ _ q
/-- a loop: S tells how its rounds begin -/
theorem BWp.loop {α : Type} (S : α → (Nat → Value) × Hp) (m : α → Nat) (I : α → Prop) {c : Code} (body : ∀ s, I s → BWp P B N c (fun e T h => match e with | .normal => ∃ s', I s' ∧ m s' < m s ∧ FadesTo P B T h (S s').1 (S s').2 | e => Q e T h) (S s).1 (S s).2)
    (s : α) (hs : I s) (F : FadesTo P B T h (S s).1 (S s).2) : BWp P B N (.loop c) Q T h := by
  refine .fadeTo F ?_
  intro hB r ρ w a H ht
  have key : ∀ (n : Nat) (s : α), I s → m s < n → ∀ ρ w a, B ≤ (S s).2.next → HR P ρ (S s).2 w → TR ρ (S s).1 N a → Code.roundsIn (FR r) 0 P c (PostB P B N ρ (S s).2 w a.defers Q) n a w := by
    intro n
    induction n with
    | zero => intro s _ hm; omega
    | succ n ih =>
      intro s hs hm ρ w a hB H ht
      refine wpIn_mono (body s hs hB r ρ w a H ht) fun e a' w' q => ?_
      obtain ⟨e', ρ', T', h', p1, p2, p3, p4, p5, p6⟩ := q
      cases e' with
      | normal =>
        cases p1
        obtain ⟨s', k1, k2, τ, F, ft⟩ := p6
        have ht' : TR (ρ'.fade τ (S s').2) (S s').1 N a' := ⟨p4.1, fun t => FV.vr Fades.rt _ _ _ (ft t) (p4.2 t)⟩
        have := ih s' k1 (by omega) _ w' a' F.nx (F.hr p2) ht'
        rw [p5] at this
        have hmono : ∀ e a2 w2, PostB P B N (ρ'.fade τ (S s').2) (S s').2 w' a.defers Q e a2 w2 → PostB P B N ρ (S s).2 w a.defers Q e a2 w2 := fun _ _ _ q => (q.trans (F.fr p2)).trans p3
        exact rounds_mono hmono n this
      | exit n => cases p1; exact ⟨.exit n, ρ', T', h', rfl, p2, p3, p4, p5, p6⟩
      | goto n => cases p1; exact ⟨.goto n, ρ', T', h', rfl, p2, p3, p4, p5, p6⟩
      | ret => cases p1; exact ⟨.ret, ρ', T', h', rfl, p2, p3, p4, p5, p6⟩
      | panic v => obtain ⟨c, rfl, p7⟩ := p1; exact ⟨.panic v, ρ', T', h', ⟨c, rfl, p7⟩, p2, p3, p4, p5, p6⟩
  exact wpIn_loop_rounds (m s + 1) (key (m s + 1) s hs (by omega) ρ w a hB H ht)
end
end Go.Ab
/- Regions that ask for their order, told by one order, with propositions. -/
namespace Go.Ab
open Go.RowKit
section
variable (P : Program)
/-- an operation that changes nothing and yields v -/
def Float (o : Oper) (T : Nat → Value) (v : Value) (h : Hp) : Prop := AOne P o T h (fun v' h' => v' = v ∧ h' = h) (fun _ _ => False)
/-- .. of pure operations: in each heap -/
def FloatX (o : Oper) (T : Nat → Value) (v : Value) (h : Hp) : Prop := bif pureOp o.op then ∀ h', Float P o T v h' else Float P o T v h
structure LP where
  i : Nat
  o : Oper
  T : Nat → Value
  v : Value
def ReF (h : Hp) (deps : List Nat) : List LP → Prop
  | [] => True
  | e :: l => (memN e.i deps = true ∨ Float P e.o e.T e.v h) ∧ ReF h deps l
def left (deps : List Nat) : List LP → List LP
  | [] => []
  | e :: l => bif memN e.i deps then left deps l else e :: left deps l
variable (ops : List Oper) (Q : APost) (QP : Value → Hp → Prop)
def PL : List PStep → List LP → (Nat → Value) → Hp → Prop
  | [], _, T, h => Q .normal T h
  | .fl i o :: p, L, T, h =>
    (wantA ops T o = true ∧ ∃ v, FloatX P o T v h ∧ PL p (bif pureOp o.op then L else ⟨i, o, T, v⟩ :: L) (putT T o.dst v) h) ∨
    (wantA ops T o = false ∧ gK ops T o = true ∧ PL p L (putT T o.dst undef) h)
  | .ef _ o deps :: p, L, T, h =>
    (wantA ops T o = true ∧ AOne P o T h (fun v h' => ReF P h' deps L ∧ PL p (left deps L) (putT T o.dst v) h') QP) ∨
    (wantA ops T o = false ∧ gK ops T o = true ∧ PL p L (putT T o.dst undef) h)
end
section
variable {P : Program}
theorem Float.op {E : Nat → Option TI} (hE : EnvOK P E) {o : Oper} {T : Nat → Value} {h : Hp} {v : Value} (hr : opA E T h.get h.next o.op = some (v, .keep)) : Float P o T v h := AOne.op hE hr ⟨rfl, rfl⟩
theorem FloatX.op {E : Nat → Option TI} (hE : EnvOK P E) {o : Oper} {T : Nat → Value} {h : Hp} {v : Value} (hr : opA E T h.get h.next o.op = some (v, .keep)) : FloatX P o T v h := by
  unfold FloatX
  cases hp : pureOp o.op with
  | true => exact fun h' => Float.op hE (by rw [← hr]; exact pureOp_spec hp)
  | false => exact Float.op hE hr
theorem FloatX.of {o : Oper} {T : Nat → Value} {h : Hp} {v : Value} (hp : pureOp o.op = false) (p : Float P o T v h) : FloatX P o T v h := by
  unfold FloatX
  rw [hp]
  exact p
theorem Float.anyE {o : Oper} {T : Nat → Value} {h : Hp} {v : Value} {R RP : Value → Hp → Prop} (p : Float P o T v h) (q : R v h) : AOne P o T h R RP := fun ρ w ev H hv =>
  (p ρ w ev H hv).mono (fun _ _ ⟨ρ', v', h', k1, k2, k3, k4, k5⟩ => ⟨ρ', v', h', k1, k2, k3, by rw [k4, k5]; exact q⟩) (fun _ _ ⟨_, _, _, _, _, _, _, _, k⟩ => k.elim)
theorem ReF.spec {h : Hp} {deps : List Nat} : ∀ {L : List LP}, ReF P h deps L → ∀ e ∈ L, memN e.i deps = false → Float P e.o e.T e.v h
  | [], _, e, he, _ => by cases he
  | x :: l, ⟨h1, h2⟩, e, he, hn => by
    cases he with
    | head => rcases h1 with h1 | h1
              · rw [hn] at h1; cases h1
              · exact h1
    | tail _ he => exact ReF.spec h2 e he hn
theorem left_spec {deps : List Nat} : ∀ {L : List LP} {e : LP}, e ∈ left deps L ↔ e ∈ L ∧ memN e.i deps = false
  | [], e => by simp [left]
  | x :: l, e => by
    unfold left
    cases hx : memN x.i deps with
    | true =>
      simp only [cond_true]
      rw [left_spec]
      constructor
      · rintro ⟨a, b⟩; exact ⟨List.mem_cons_of_mem _ a, b⟩
      · rintro ⟨a, b⟩
        cases a with
        | head => rw [hx] at b; cases b
        | tail _ a => exact ⟨a, b⟩
    | false =>
      simp only [cond_false]
      constructor
      · intro a
        cases a with
        | head => exact ⟨List.mem_cons_self, hx⟩
        | tail _ a => obtain ⟨b, c⟩ := left_spec.1 a; exact ⟨List.mem_cons_of_mem _ b, c⟩
      · rintro ⟨a, b⟩
        cases a with
        | head => exact List.mem_cons_self
        | tail _ a => exact List.mem_cons_of_mem _ (left_spec.2 ⟨a, b⟩)
/-- what was read would be read again, until an effect comes that waited for it -/
def SLP (P : Program) (pf : Nat → Bool) (ops : Array Oper) (L : List LP) (l : Array Bool) (h : Hp) : Prop :=
  ∀ e ∈ L, (∀ (j : Nat) (o : Oper), ops[j]? = some o → isFlX pf o.op = false → depB ops ops.size j e.i = true → l.getD j false = false) → Float P e.o e.T e.v h
variable {Q : APost} {QP : Value → Hp → Prop}
theorem PL.sound {pf : Nat → Bool} {ops : Array Oper} :
    ∀ (m : Nat) (l : Array Bool) (p : List PStep) (L : List LP) (T : Nat → Value) (h : Hp), planOf pf ops m l = some p → Closed ops l → SLP P pf ops L l h → PL P ops.toList Q QP p L T h →
    DAny P ops Q QP (SLP P pf ops L) m l T h := by
  intro m
  induction m with
  | zero =>
    intro l p L T h hp hc hs q
    unfold planOf at hp
    split at hp
    · rename_i hr
      cases hp
      exact DAny.done hr q 0
    · cases hp
  | succ m ih =>
    intro l p L T h hp hc hs q
    unfold planOf at hp
    split at hp
    · rename_i hr
      cases hp
      exact DAny.done hr q _
    · rename_i r rs hr
      split at hp
      · rename_i i o hfl
        obtain ⟨hi, ho, hof⟩ := findFl_spec hfl
        rw [← hr] at hi
        cases hfree : Region.free .any ops l i with
        | false => rw [hfree] at hp; cases hp
        | true =>
          rw [hfree] at hp
          simp only [cond_true] at hp
          split at hp
          · rename_i p' hp'
            cases hp
            have hil : l.getD i true = false := (mem_ready.1 hi).1
            have hset : ∀ (l' : Array Bool) (j : Nat) (oj : Oper), ops[j]? = some oj → isFlX pf oj.op = false → (l'.setIfInBounds i true).getD j false = l'.getD j false := fun l' j oj hj hjf => by
              refine getD_set_ne false ?_
              intro e
              subst e
              rw [ho] at hj
              cases hj
              rw [hof] at hjf
              cases hjf
            have hS1 : ∀ (L : List LP) l' h', SLP P pf ops L (l'.setIfInBounds i true) h' → SLP P pf ops L l' h' := fun L l' h' q e he hn => q e he fun j oj hj hjf hd => by rw [hset l' j oj hj hjf]; exact hn j oj hj hjf hd
            have hS2 : ∀ (L : List LP) l' h', SLP P pf ops L l' h' → SLP P pf ops L (l'.setIfInBounds i true) h' := fun L l' h' q e he hn => q e he fun j oj hj hjf hd => by have := hn j oj hj hjf hd; rw [hset l' j oj hj hjf] at this; exact this
            unfold PL at q
            rcases q with ⟨hw, v, hf, q⟩ | ⟨hw, hk, q⟩
            · cases hpu : pureOp o.op with
              | true =>
                rw [hpu] at q
                simp only [cond_true] at q
                unfold FloatX at hf
                rw [hpu] at hf
                simp only [cond_true] at hf
                have dn := ih _ p' L _ h hp' (hc.add hi) (hS2 L l h hs) q
                refine DAny.first (v := v) (T0 := T) ho (hS1 L) (hS2 L) ?_ m l T h (Region.free_spec ho hfree) hi hc agree.refl hs dn
                intro l' T' h' _ _ _ ha
                have hw' := ha.want
                rw [hw] at hw'
                exact ⟨fun _ => ((hf h').anyE (R := fun v' h2 => v' = v ∧ h2 = h') ⟨rfl, rfl⟩ : AOne P o T h' _ _).congr ha.evo, fun e => (by rw [← hw'] at e; cases e)⟩
              | false =>
                rw [hpu] at q
                simp only [cond_false] at q
                unfold FloatX at hf
                rw [hpu] at hf
                simp only [cond_false] at hf
                have hs' : SLP P pf ops (⟨i, o, T, v⟩ :: L) l h := fun e he hn => by
                  cases he with
                  | head => exact hf
                  | tail _ he => exact hs e he hn
                have dn := ih _ p' (⟨i, o, T, v⟩ :: L) _ h hp' (hc.add hi) (hS2 _ l h hs') q
                refine DAny.mono (S := SLP P pf ops (⟨i, o, T, v⟩ :: L)) (fun l' h' q e he => q e (List.mem_cons_of_mem _ he)) _ ?_
                refine DAny.first (v := v) (T0 := T) ho (hS1 _) (hS2 _) ?_ m l T h (Region.free_spec ho hfree) hi hc agree.refl hs' dn
                intro l' T' h' q hcl hrl ha
                have hw' := ha.want
                rw [hw] at hw'
                have hri := (mem_ready.1 hrl).1
                have hrun := q ⟨i, o, T, v⟩ List.mem_cons_self fun j oj hj hjf hd => by
                  cases hlj : l'.getD j false with
                  | false => rfl
                  | true =>
                    have := depB_closed hcl _ _ _ hd hlj
                    simp only [Array.getD_eq_getD_getElem?] at this hri
                    cases hx : l'[i]? with
                    | none => rw [hx] at this; cases this
                    | some b => rw [hx] at this hri; simp only [Option.getD_some] at this hri; rw [this] at hri; cases hri
                exact ⟨fun _ => (hrun.anyE (R := fun v' h2 => v' = v ∧ h2 = h') ⟨rfl, rfl⟩ : AOne P o T h' _ _).congr ha.evo, fun e => (by rw [← hw'] at e; cases e)⟩
            · have dn := ih _ p' L _ h hp' (hc.add hi) (hS2 L l h hs) q
              refine DAny.first (v := undef) (T0 := T) ho (hS1 L) (hS2 L) ?_ m l T h (Region.free_spec ho hfree) hi hc agree.refl hs dn
              intro l' T' h' _ _ _ ha
              have := ha.want
              rw [hw] at this
              rw [← this]
              exact ⟨fun e => (by cases e), fun _ => ⟨ha.gk ▸ hk, rfl⟩⟩
          · cases hp
      · rename_i hfl
        split at hp
        · rename_i o ho
          split at hp
          · rename_i p' hp'
            cases hp
            have hi : r ∈ Region.ready .any ops l := by rw [hr]; exact List.mem_cons_self
            have hnf := findFl_none hfl r List.mem_cons_self o ho
            have hil : l.getD r true = false := (mem_ready.1 hi).1
            have hilt : r < l.size := by
              rcases Nat.lt_or_ge r l.size with h' | h'
              · exact h'
              · simp [Array.getElem?_eq_none h'] at hil
            have hlr : (l.setIfInBounds r true).getD r false = true := by simp [hilt]
            -- behind the effect
            have key : ∀ (h' : Hp), ReF P h' (depsOf ops r) L → SLP P pf ops L (l.setIfInBounds r true) h' := by
              intro h' k1 e he hn
              cases hm : memN e.i (depsOf ops r) with
              | false => exact k1.spec e he hm
              | true =>
                have := hn r o ho hnf (depsOf_spec hm)
                rw [hlr] at this
                cases this
            have down : ∀ (T : Nat → Value) (h' : Hp), DAny P ops Q QP (SLP P pf ops (left (depsOf ops r) L)) m (l.setIfInBounds r true) T h' → DAny P ops Q QP (SLP P pf ops L) m (l.setIfInBounds r true) T h' := by
              intro T h' d
              refine DAny.monoAt (j := r) ?_ m hlr d
              intro l2 h2 hl2 q e he hn
              cases hm : memN e.i (depsOf ops r) with
              | false => exact q e (left_spec.2 ⟨he, hm⟩) hn
              | true =>
                have := hn r o ho hnf (depsOf_spec hm)
                rw [hl2] at this
                cases this
            unfold PL at q
            refine DAny.only hr ho (fun hw => ?_) (fun hw => ?_)
            · rcases q with ⟨_, q⟩ | ⟨hw', _⟩
              · refine q.mono ?_
                rintro v h' ⟨k1, k2⟩
                have hs' : SLP P pf ops (left (depsOf ops r) L) (l.setIfInBounds r true) h' := fun e he _ => by
                  obtain ⟨a, b⟩ := left_spec.1 he
                  exact k1.spec e a b
                exact ⟨key h' k1, down _ _ (ih _ p' _ _ _ hp' (hc.add hi) hs' k2)⟩
              · rw [hw] at hw'; cases hw'
            · rcases q with ⟨hw', _⟩ | ⟨_, hk, q⟩
              · rw [hw] at hw'; cases hw'
              · have hs2 : SLP P pf ops L (l.setIfInBounds r true) h := fun e he hn => hs e he fun j oj hj hjf hd => by
                  cases hlj : l.getD j false with
                  | false => rfl
                  | true => have := getD_set_true (i := r) hlj; rw [hn j oj hj hjf hd] at this; cases this
                exact ⟨hk, hs2, ih _ p' L _ h hp' (hc.add hi) hs2 q⟩
          · cases hp
        · cases hp
end
end Go.Ab
