/- A part of the proof of a law over a given program: See2, See3, See4, Odd2, Rf. -/
import Derived.Lib.UnsafeStr
import Derived.RangeFuncRecord
import Derived.Test.YtckgcmgnpblnaaaGreatDoorT12
set_option linter.unusedVariables false
set_option linter.unusedSimpArgs false
/- What is seen of a slice, thing by thing; loops that tell how their heaps are alike. -/
namespace Go.Ab
open Go.RowKit
section
variable {P : Program} {ng B N : Nat} {Q : APost} {T T' : Nat → Value} {h h' : Hp}
theorem CWp.entry {c : Code} (p : Entry P h → CWp P ng B N c Q T h) : CWp P ng B N c Q T h := fun hok hB r ρ w a H ht => p H.entry hok hB r ρ w a H ht
def TLess (T' T : Nat → Value) : Prop := ∀ t, T' t = T t ∨ T' t = junk
theorem TLess.refl : TLess T T := fun t => .inl rfl
theorem tl_less {L L' : List (Nat × Value)} (hL : ∀ p ∈ L', lk L p.1 = some p.2) : TLess (tl L') (tl L) := fun t => by
  unfold tl
  cases hl : lk L' t with
  | none => exact .inr rfl
  | some v => rw [show lk L t = some v from hL _ (lk_mem hl)]; exact .inl rfl
/-- how a round of a loop ends that tells its heaps -/
def roundR {α : Type} (S : α → (Nat → Value) × Hp) (m : α → Nat) (I : α → Prop) (s : α) (Q : APost) : APost
  | .normal, T, h => ∃ s', I s' ∧ m s' < m s ∧ TLess (S s').1 T ∧ h = (S s').2
  | e, T, h => Q e T h
theorem BWp.loopR {α : Type} (S : α → (Nat → Value) × Hp) (m : α → Nat) (I : α → Prop) {c : Code} (body : ∀ s, I s → BWp P B N c (roundR S m I s Q) (S s).1 (S s).2) (s : α) (hs : I s) (hT : TLess (S s).1 T) (hh : h = (S s).2) : BWp P B N (.loop c) Q T h := by
  subst hh
  intro hB r ρ w a H ht
  have key : ∀ (n : Nat) (s : α), I s → m s < n → ∀ ρ w a, B ≤ (S s).2.next → HR P ρ (S s).2 w → TR ρ (S s).1 N a → Code.roundsIn (FR r) 0 P c (PostB P B N ρ (S s).2 w a.defers Q) n a w := by
    intro n
    induction n with
    | zero => intro s _ hm; omega
    | succ n ih =>
      intro s hs hm ρ w a hB H ht
      refine wpIn_mono (body s hs hB r ρ w a H ht) fun e a' w' q => ?_
      obtain ⟨e', ρ', T', h', p1, p2, p3, p4, p5, p6⟩ := q
      cases e' with
      | normal =>
        cases p1
        obtain ⟨s', k1, k2, ft, k3⟩ := p6
        subst k3
        have ht' : TR ρ' (S s').1 N a' := ⟨p4.1, fun t => by
          rcases ft t with e | e
          · rw [e]; exact p4.2 t
          · rw [e]; exact trivial⟩
        have := ih s' k1 (by omega) ρ' w' a' (Fr.nextB p3 hB) p2 ht'
        rw [p5] at this
        exact rounds_mono (fun _ _ _ q => q.trans p3) n this
      | exit n => cases p1; exact ⟨.exit n, ρ', T', h', rfl, p2, p3, p4, p5, p6⟩
      | goto n => cases p1; exact ⟨.goto n, ρ', T', h', rfl, p2, p3, p4, p5, p6⟩
      | ret => cases p1; exact ⟨.ret, ρ', T', h', rfl, p2, p3, p4, p5, p6⟩
      | panic v => obtain ⟨c, rfl, p7⟩ := p1; exact ⟨.panic v, ρ', T', h', ⟨c, rfl, p7⟩, p2, p3, p4, p5, p6⟩
  have ht0 : TR ρ (S s).1 N a := ⟨ht.1, fun t => by
    rcases hT t with e | e
    · rw [e]; exact ht.2 t
    · rw [e]; exact trivial⟩
  exact wpIn_loop_rounds (m s + 1) (key (m s + 1) s hs (by omega) ρ w a hB H ht0)
theorem CWp.loopR {α : Type} (S : α → (Nat → Value) × Hp) (m : α → Nat) (I : α → Prop) {c : Code} (s : α) (hs : I s) (hT : TLess (S s).1 T) (hh : h = (S s).2)
    (body : ∀ s, I s → CWp P ng B N c (roundR S m I s Q) (S s).1 (S s).2) : CWp P ng B N (.loop c) Q T h := fun hok =>
  BWp.loopR S m I (fun s hs => body s hs hok) s hs hT hh
theorem CWp.weakenT {c : Code} (ht : TLess T' T) (p : CWp P ng B N c Q T' h) : CWp P ng B N c Q T h := fun hok hB r ρ w a H hT => p hok hB r ρ w a H ⟨hT.1, fun t => by
  rcases ht t with e | e
  · rw [e]; exact hT.2 t
  · rw [e]; exact trivial⟩
theorem CWp.cutR {K : Hp → Prop} {TL : List (Nat × Value)} {x y : Code} (p : CWp P ng B N x (thenA (fun T h => TLess (tl TL) T ∧ K h) Q) T h) (q : ∀ h, K h → CWp P ng B N y Q (tl TL) h) : CWp P ng B N (.seq x y) Q T h :=
  CWp.seq (p.mono fun e T h r => by
    cases e <;> first | exact r | skip
    exact (q h r.2).weakenT r.1)
theorem roundR_normal {α : Type} {S : α → (Nat → Value) × Hp} {m : α → Nat} {I : α → Prop} {s : α} : roundR S m I s Q .normal T h = ∃ s', I s' ∧ m s' < m s ∧ TLess (S s').1 T ∧ h = (S s').2 := rfl
theorem roundR_exit {α : Type} {S : α → (Nat → Value) × Hp} {m : α → Nat} {I : α → Prop} {s : α} {i : Nat} : roundR S m I s Q (.exit i) T h = Q (.exit i) T h := rfl
theorem roundR_panic {α : Type} {S : α → (Nat → Value) × Hp} {m : α → Nat} {I : α → Prop} {s : α} {v : Value} : roundR S m I s Q (.panic v) T h = Q (.panic v) T h := rfl
theorem roundR_ret {α : Type} {S : α → (Nat → Value) × Hp} {m : α → Nat} {I : α → Prop} {s : α} : roundR S m I s Q .ret T h = Q .ret T h := rfl
theorem roundR_goto {α : Type} {S : α → (Nat → Value) × Hp} {m : α → Nat} {I : α → Prop} {s : α} {i : Nat} : roundR S m I s Q (.goto i) T h = Q (.goto i) T h := rfl
end
theorem Eye.mono {te ti ts : Nat} {h : Hp} {be : Nat} {E E' : Nat → Prop} {ns : List Int} {ss : List ByteArray} {m : Bool} {a : Int} (he : Eye te ti ts h be E ns ss m a) (hE : ∀ i, E i → E' i) : Eye te ti ts h be E' ns ss m a := by
  obtain ⟨nv, sv, h1, h2, h3, h4, h5, h6⟩ := he
  have go : ∀ {v cs el}, OwnSl h E be v cs el → OwnSl h E' be v cs el := by
    intro v cs el k
    rcases k with k | ⟨nb, k1, k2, k3, k4⟩
    · exact .inl k
    · exact .inr ⟨nb, k1, k2, hE _ k3, k4⟩
  exact ⟨nv, sv, h1, h2, hE _ h3, go h4, go h5, h6⟩
theorem Rep.pos : ∀ {h : Hp} {t : SeeTy} {b o : Nat} {ns : List Int} {ss : List ByteArray}, Rep h t b o ns ss → 1 ≤ ns.length + ss.length
  | _, .int, _, _, _, _, ⟨_, _, h2, _⟩ => by rw [h2]; simp
  | _, .bool, _, _, _, _, ⟨_, _, h2, _⟩ => by rw [h2]; simp
  | _, .str, _, _, _, _, ⟨_, _, _, h2⟩ => by rw [h2]; simp
  | _, .seq _ _ _, _, _, _, _, ⟨_, _, _, _, h1, _, h3, h4⟩ => by have := h1.pos; rw [h3, h4]; simp only [List.length_append]; omega
  | _, .sl _ _, _, _, _, _, .inl ⟨_, h2, _⟩ => by rw [h2]; simp
  | _, .sl _ _, _, _, _, _, .inr ⟨_, _, _, _, _, _, _, _, h2, _⟩ => by rw [h2]; simp only [List.length_cons]; omega
theorem catN_congr {α : Type} {f g : Nat → List α} : ∀ {n : Nat}, (∀ j, j < n → f j = g j) → catN f n = catN g n
  | 0, _ => rfl
  | n + 1, h => by unfold catN; rw [catN_congr fun j hj => h j (by omega), h n (by omega)]
theorem catN_len {α : Type} {f g : Nat → List α} : ∀ {n : Nat}, (∀ j, j < n → (f j).length = (g j).length) → (catN f n).length = (catN g n).length
  | 0, _ => rfl
  | n + 1, h => by unfold catN; rw [List.length_append, List.length_append, catN_len fun j hj => h j (by omega), h n (by omega)]
theorem catN_le {α : Type} {f : Nat → List α} {i : Nat} : ∀ {n : Nat}, i ≤ n → (catN f i).length ≤ (catN f n).length
  | 0, h => by rw [show i = 0 by omega]; exact Nat.le_refl _
  | n + 1, h => by
    by_cases e : i = n + 1
    · rw [e]; exact Nat.le_refl _
    · have := catN_le (f := f) (i := i) (n := n) (by omega)
      simp only [catN, List.length_append]; omega
theorem catN_pos {f : Nat → List Int} {g : Nat → List ByteArray} : ∀ {n : Nat}, (∀ j, j < n → 1 ≤ (f j).length + (g j).length) → n ≤ (catN f n).length + (catN g n).length
  | 0, _ => Nat.zero_le _
  | n + 1, h => by
    have h1 := catN_pos (n := n) fun j hj => h j (by omega)
    have h2 := h n (by omega)
    simp only [catN, List.length_append]; omega
/-- things side by side: seen up to the i-th -/
def AllInv (te ti ts : Nat) (t : SeeTy) (sz : Nat) (h : Hp) (b2 o2 n be : Nat) (E : Nat → Prop) (n0 : List Int) (s0 : List ByteArray) (f : Nat → List Int) (g : Nat → List ByteArray) (m : Bool) (a0 : Int) (i : Nat) (h' : Hp) : Prop :=
  ∃ (f' : Nat → List Int) (g' : Nat → List ByteArray) (at' : Int), Eye te ti ts h' be (fun x => E x ∨ (h.next ≤ x ∧ x < h'.next)) (n0 ++ catN f' i) (s0 ++ catN g' i) m at' ∧
    (∀ j, j < i → Rep h' t b2 (o2 + j * sz) (f' j) (g' j) ∧ (m = false → f' j = f j ∧ g' j = g j) ∧ (f' j).length = (f j).length ∧ (g' j).length = (g j).length) ∧
    (∀ j, i ≤ j → j < n → Rep h' t b2 (o2 + j * sz) (f j) (g j)) ∧
    (∀ j, j < n → ∀ x y, Hdr h t b2 (o2 + j * sz) x y → cellOf h' x y = cellOf h x y) ∧
    Fr1 h h' E (fun x y => m = true ∧ ∃ j, j < i ∧ Foot h t b2 (o2 + j * sz) x y) ∧
    a0 ≤ at' ∧ at' ≤ a0 + (catN f i).length + (catN g i).length
/-- what is asked of things side by side -/
structure AllPre (t : SeeTy) (sz : Nat) (h : Hp) (b2 o2 n : Nat) (E : Nat → Prop) (n0 : List Int) (s0 : List ByteArray) (f : Nat → List Int) (g : Nat → List ByteArray) (m : Bool) (a0 : Int) : Prop where
  rep : ∀ j, j < n → Rep h t b2 (o2 + j * sz) (f j) (g j)
  dis : ∀ j, j < n → ∀ x y, Foot h t b2 (o2 + j * sz) x y → ¬ E x ∧ x < h.next
  na : m = true → ∀ j, j < n → NA h t b2 (o2 + j * sz)
  sep : m = true → ∀ i j, i < n → j < n → i ≠ j → ∀ x y, Foot h t b2 (o2 + i * sz) x y → ¬ Foot h t b2 (o2 + j * sz) x y
  wr : m = true → ∀ j, j < n → ∀ x y, Foot h t b2 (o2 + j * sz) x y → ∃ c e, h.get x = some (.cells c false e)
  ln : n0.length + (catN f n).length ≤ 1048576
  ls : s0.length + (catN g n).length ≤ 1048576
  la : 0 ≤ a0 ∧ a0 + (catN f n).length + (catN g n).length ≤ 1000000000000
section
variable {te ti ts : Nat} {t : SeeTy} {sz : Nat} {h : Hp} {b2 o2 n be : Nat} {E : Nat → Prop} {n0 : List Int} {s0 : List ByteArray} {f : Nat → List Int} {g : Nat → List ByteArray} {m : Bool} {a0 : Int} {i : Nat} {h' h'' : Hp} {P : Program}
theorem AllPre.bound (A : AllPre t sz h b2 o2 n E n0 s0 f g m a0) : n ≤ 2100000 := by
  have := catN_pos (f := f) (g := g) (n := n) fun j hj => (A.rep j hj).pos
  have := A.ln
  have := A.ls
  omega
/-- the next one is seen -/
theorem AllInv.call {G : FuncId} (K : SeeOK P te ti ts G t) (A : AllPre t sz h b2 o2 n E n0 s0 f g m a0) (I : AllInv te ti ts t sz h b2 o2 n be E n0 s0 f g m a0 i h') (hi : i < n) :
    ACalls P G [.pointer (some ⟨be, 0, none⟩), .pointer (some ⟨b2, o2 + i * sz, none⟩)] (fun e h'' => e = .ret (.tuple #[]) ∧ AllInv te ti ts t sz h b2 o2 n be E n0 s0 f g m a0 (i + 1) h'') h' := by
  obtain ⟨f', g', at', eye, r1, r2, hd, F, ha1, ha2⟩ := I
  have hF : ∀ j, j < n → ∀ {x y}, (Foot h' t b2 (o2 + j * sz) x y ↔ Foot h t b2 (o2 + j * sz) x y) := fun j hj x y => Foot.hdr (hd j hj)
  have hl1 : (catN f' i).length = (catN f i).length := catN_len fun j hj => (r1 j hj).2.2.1
  have hl2 : (catN g' i).length = (catN g i).length := catN_len fun j hj => (r1 j hj).2.2.2
  have hm1 := catN_le (f := f) (show i + 1 ≤ n by omega)
  have hm2 := catN_le (f := g) (show i + 1 ≤ n by omega)
  simp only [catN, List.length_append] at hm1 hm2
  have := A.ln
  have := A.ls
  have := A.la
  have hnE : ∀ j, j < n → ∀ x y, Foot h t b2 (o2 + j * sz) x y → ¬ (E x ∨ (h.next ≤ x ∧ x < h'.next)) ∧ x < h'.next := fun j hj x y hx => by
    obtain ⟨q1, q2⟩ := A.dis j hj x y hx
    have := F.nx
    exact ⟨fun q => by rcases q with q | ⟨q, _⟩; exact q1 q; omega, by omega⟩
  refine (K h' b2 (o2 + i * sz) be (fun x => E x ∨ (h.next ≤ x ∧ x < h'.next)) (n0 ++ catN f' i) (s0 ++ catN g' i) (f i) (g i) m at' (r2 i (Nat.le_refl _) hi) eye (fun x y hx => hnE i hi x y ((hF i hi).1 hx)) (fun hm => ⟨(A.na hm i hi).hdr (hd i hi), fun x y hx => ?_⟩) ?_ ?_ ?_).mono ?_
  · have hx := (hF i hi).1 hx
    obtain ⟨q1, q2⟩ := A.dis i hi x y hx
    obtain ⟨c, e, q3⟩ := A.wr hm i hi x y hx
    obtain ⟨c', q4, _⟩ := F.shp x q2 q1 c false e q3
    exact ⟨c', e, q4⟩
  · simp only [List.length_append]; omega
  · simp only [List.length_append]; omega
  · constructor <;> omega
  · rintro e h'' ⟨rfl, ns', ss', a1, eye', rp, e1, ⟨l1, l2, l3, l4⟩, hd', F'⟩
    have hst : ∀ j, j < n → j ≠ i → ∀ x y, Foot h' t b2 (o2 + j * sz) x y → cellOf h'' x y = cellOf h' x y := fun j hj hne x y hx => by
      obtain ⟨q1, q2⟩ := hnE j hj x y ((hF j hj).1 hx)
      refine F'.cell x q2 q1 y fun ⟨hm, hx'⟩ => ?_
      exact A.sep hm j i hj hi hne x y ((hF j hj).1 hx) ((hF i hi).1 hx')
    have fi : ∀ j, j < i → (if j < i then f' j else ns') = f' j := fun j hj => if_pos hj
    have gi : ∀ j, j < i → (if j < i then g' j else ss') = g' j := fun j hj => if_pos hj
    refine ⟨rfl, fun j => if j < i then f' j else ns', fun j => if j < i then g' j else ss', a1, ?_, ?_, ?_, ?_, ?_, by omega, ?_⟩
    · simp only [catN]
      rw [catN_congr (f := fun j => if j < i then f' j else ns') (g := f') fi, catN_congr (f := fun j => if j < i then g' j else ss') (g := g') gi, if_neg (Nat.lt_irrefl i), if_neg (Nat.lt_irrefl i), ← List.append_assoc, ← List.append_assoc]
      refine eye'.mono fun x hx => ?_
      have := F.nx
      have := F'.nx
      rcases hx with (hx | ⟨hx, hx'⟩) | ⟨hx, hx'⟩
      · exact .inl hx
      · exact .inr ⟨hx, by omega⟩
      · exact .inr ⟨by omega, hx'⟩
    · intro j hj
      by_cases hji : j < i
      · simp only [if_pos hji]
        exact ⟨(r1 j hji).1.stay (hst j (by omega) (by omega)), (r1 j hji).2⟩
      · have : j = i := by omega
        subst this
        simp only [if_neg hji]
        exact ⟨rp, e1, l1, l2⟩
    · intro j hj hjn
      exact (r2 j (by omega) hjn).stay (hst j hjn (by omega))
    · intro j hj x y hx
      have hx' : Hdr h' t b2 (o2 + j * sz) x y := (Hdr.hdr (hd j hj)).2 hx
      rw [← hd j hj x y hx]
      by_cases hji : j = i
      · subst hji; exact hd' x y hx'
      · exact hst j hj hji x y hx'.foot
    · refine F.trans F' (fun x hx q => ?_) (fun x y ⟨hm, j, hj, q⟩ => ⟨hm, j, by omega, q⟩) (fun x y hx ⟨hm, q⟩ => ⟨hm, i, by omega, (hF i hi).1 q⟩)
      rcases q with q | ⟨q, _⟩
      · exact q
      · omega
    · simp only [catN, List.length_append]
      omega
/-- how it begins: behind the push of their number -/
theorem AllInv.start {nv sv : Value} {U' L : List (Nat × AObj)} {k j nn : Nat} (hrep : ∀ j, j < n → Rep h t b2 (o2 + j * sz) (f j) (g j)) (hdis : ∀ j, j < n → ∀ x y, Foot h t b2 (o2 + j * sz) x y → ¬ E x ∧ x < h.next)
    (hbe : be < h.next) (hEbe : E be) (hsv : OwnSl h E be sv (strsV s0) ts) (hU1 : lk U' be = some (.cells [nv, sv, .bool m, .int .i64 a0] false te)) (hnv : nv = .slice (some ⟨loc h j, 0, none⟩) nn (U + 1)) (hn : nn = n0.length) (hj : j < k)
    (hL : lk L j = some (.cells (ints n0) false ti)) (hU2 : ∀ sb n c, sv = .slice (some ⟨sb, 0, none⟩) n c → lk U' sb = none) (hUs : ∀ p ∈ U', E p.1) : AllInv te ti ts t sz h b2 o2 n be E n0 s0 f g m a0 0 (Ab.ov h U' L k) := by
  have F : ∀ S : Nat → Nat → Prop, Fr1 h (Ab.ov h U' L k) E S := fun S => Fr1.ov fun p hp => .inl (hUs p hp)
  have hst : ∀ j, j < n → ∀ x y, Foot h t b2 (o2 + j * sz) x y → cellOf (Ab.ov h U' L k) x y = cellOf h x y := fun j hj x y hx => (F fun _ _ => False).cell x (hdis j hj x y hx).2 (hdis j hj x y hx).1 y id
  refine ⟨f, g, a0, ?_, fun j hj => by omega, fun j _ hj => (hrep j hj).stay (hst j hj), fun j hj x y hx => hst j hj x y hx.foot, F _, Int.le_refl _, by simp [catN]⟩
  simp only [catN, List.append_nil]
  exact Eye.push hbe hEbe hsv hU1 hnv hn hj hL hU2
end
/-- what a function that sees things side by side does -/
def AllOK (P : Program) (te ti ts : Nat) (G : FuncId) (gEl : FuncId) (t : SeeTy) (sz : Nat) : Prop :=
  ∀ (h : Hp) (a : Option Addr) (n c b2 o2 be : Nat) (E : Nat → Prop) (n0 : List Int) (s0 : List ByteArray) (f : Nat → List Int) (g : Nat → List ByteArray) (m : Bool) (a0 : Int), ((a = none ∧ n = 0) ∨ a = some ⟨b2, o2, none⟩) →
    AllPre t sz h b2 o2 n E (n0 ++ [(n : Int)]) s0 f g m a0 → Eye te ti ts h be E n0 s0 m a0 →
    ACalls P G [.pointer (some ⟨be, 0, none⟩), .slice a n c, .func (.func gEl) #[] #[]] (fun e h' => e = .ret (.tuple #[]) ∧ AllInv te ti ts t sz h b2 o2 n be E (n0 ++ [(n : Int)]) s0 f g m a0 n h') h
end Go.Ab
/- What is seen of a thing of parts, and of a slice. -/
namespace Go.Ab
open Go.RowKit
/-- what is asked by a function that sees -/
structure SeePre (te ti ts : Nat) (t : SeeTy) (h : Hp) (b o be : Nat) (E : Nat → Prop) (n0 : List Int) (s0 : List ByteArray) (ns : List Int) (ss : List ByteArray) (m : Bool) (a0 : Int) : Prop where
  rep : Rep h t b o ns ss
  eye : Eye te ti ts h be E n0 s0 m a0
  dis : ∀ x y, Foot h t b o x y → ¬ E x ∧ x < h.next
  na : m = true → NA h t b o
  wr : m = true → ∀ x y, Foot h t b o x y → ∃ c e, h.get x = some (.cells c false e)
  ln : n0.length + ns.length ≤ 1048576
  ls : s0.length + ss.length ≤ 1048576
  la : 0 ≤ a0 ∧ a0 + ns.length + ss.length ≤ 1000000000000
section
variable {P : Program} {te ti ts : Nat} {t a c : SeeTy} {k sz : Nat} {h h1 h2 : Hp} {b o be : Nat} {E : Nat → Prop} {n0 : List Int} {s0 : List ByteArray} {ns n1 n2 : List Int} {ss s1 s2 : List ByteArray} {m : Bool} {a0 : Int} {G : FuncId}
theorem SeeOK.calls (K : SeeOK P te ti ts G t) (A : SeePre te ti ts t h b o be E n0 s0 ns ss m a0) : ACalls P G [.pointer (some ⟨be, 0, none⟩), .pointer (some ⟨b, o, none⟩)] (SeePost te ti ts t h b o be E n0 s0 ns ss m a0) h :=
  K h b o be E n0 s0 ns ss m a0 A.rep A.eye A.dis (fun hm => ⟨A.na hm, A.wr hm⟩) A.ln A.ls A.la
theorem SeeOK.of (K : ∀ (h : Hp) (b o be : Nat) (E : Nat → Prop) (n0 : List Int) (s0 : List ByteArray) (ns : List Int) (ss : List ByteArray) (m : Bool) (a0 : Int), SeePre te ti ts t h b o be E n0 s0 ns ss m a0 →
    ACalls P G [.pointer (some ⟨be, 0, none⟩), .pointer (some ⟨b, o, none⟩)] (SeePost te ti ts t h b o be E n0 s0 ns ss m a0) h) : SeeOK P te ti ts G t :=
  fun h b o be E n0 s0 ns ss m a0 r e d mm l1 l2 l3 => K h b o be E n0 s0 ns ss m a0 ⟨r, e, d, fun q => (mm q).1, fun q => (mm q).2, l1, l2, l3⟩
/-- a thing of two parts, seen one by one -/
theorem SeePre.seq (A : SeePre te ti ts (.seq a k c) h b o be E n0 s0 ns ss m a0) : ∃ n1 s1 n2 s2, SeePre te ti ts a h b o be E n0 s0 n1 s1 m a0 ∧ ∀ e1 h1, SeePost te ti ts a h b o be E n0 s0 n1 s1 m a0 e1 h1 →
    e1 = .ret (.tuple #[]) ∧ ∃ E' n0' s0' a1, SeePre te ti ts c h1 b (o + k) be E' n0' s0' n2 s2 m a1 ∧ ∀ e2 h2, SeePost te ti ts c h1 b (o + k) be E' n0' s0' n2 s2 m a1 e2 h2 → SeePost te ti ts (.seq a k c) h b o be E n0 s0 ns ss m a0 e2 h2 := by
  obtain ⟨⟨n1, s1, n2, s2, ra, rc, hns, hss⟩, eye, dis, na, wr, ln, ls, la⟩ := A
  subst hns hss
  simp only [List.length_append] at ln ls la
  refine ⟨n1, s1, n2, s2, ⟨ra, eye, fun x y hx => dis x y (.inl hx), fun hm => (na hm).1, fun hm x y hx => wr hm x y (.inl hx), by omega, by omega, by omega, by omega⟩, ?_⟩
  rintro e1 h1 ⟨rfl, ns', ss', a1, eye1, r1, q1, ⟨l1, l2, l3, l4⟩, hd1, F1⟩
  have hst : ∀ x y, Foot h c b (o + k) x y → cellOf h1 x y = cellOf h x y := fun x y hx => F1.cell x (dis x y (.inr hx)).2 (dis x y (.inr hx)).1 y fun ⟨hm, hx'⟩ => (na hm).2.2 x y hx' hx
  have hFc : ∀ {x y}, (Foot h1 c b (o + k) x y ↔ Foot h c b (o + k) x y) := fun {x y} => Foot.hdr fun x y hx => hst x y hx.foot
  have hFa : ∀ {x y}, (Foot h1 a b o x y ↔ Foot h a b o x y) := fun {x y} => Foot.hdr hd1
  have hnE : ∀ x y, (Foot h a b o x y ∨ Foot h c b (o + k) x y) → ¬ (E x ∨ (h.next ≤ x ∧ x < h1.next)) ∧ x < h1.next := fun x y hx => by
    obtain ⟨w1, w2⟩ := dis x y hx
    have := F1.nx
    exact ⟨fun q => by rcases q with q | ⟨q, _⟩; exact w1 q; omega, by omega⟩
  refine ⟨rfl, (fun x => E x ∨ (h.next ≤ x ∧ x < h1.next)), n0 ++ ns', s0 ++ ss', a1, ⟨rc.stay hst, eye1, fun x y hx => hnE x y (.inr (hFc.1 hx)), fun hm => (na hm).2.1.hdr fun x y hx => hst x y hx.foot, fun hm x y hx => ?_, ?_, ?_, ?_⟩, ?_⟩
  · have hx := hFc.1 hx
    obtain ⟨cc, e, w⟩ := wr hm x y (.inr hx)
    obtain ⟨c', w2, _⟩ := F1.shp x (dis x y (.inr hx)).2 (dis x y (.inr hx)).1 cc false e w
    exact ⟨c', e, w2⟩
  · simp only [List.length_append]; omega
  · simp only [List.length_append]; omega
  · constructor <;> omega
  · rintro e2 h2 ⟨rfl, ns2, ss2, a2, eye2, r2, q2, ⟨k1, k2, k3, k4⟩, hd2, F2⟩
    have hst2 : ∀ x y, Foot h1 a b o x y → cellOf h2 x y = cellOf h1 x y := fun x y hx => by
      obtain ⟨w1, w2⟩ := hnE x y (.inl (hFa.1 hx))
      exact F2.cell x w2 w1 y fun ⟨hm, hx'⟩ => (na hm).2.2 x y (hFa.1 hx) (hFc.1 hx')
    refine ⟨rfl, ns' ++ ns2, ss' ++ ss2, a2, ?_, ⟨ns', ss', ns2, ss2, r1.stay hst2, r2, rfl, rfl⟩, fun e => ?_, ⟨?_, ?_, ?_, ?_⟩, ?_, ?_⟩
    · rw [← List.append_assoc, ← List.append_assoc]
      refine eye2.mono fun x hx => ?_
      have := F1.nx
      have := F2.nx
      rcases hx with (hx | ⟨hx, hx'⟩) | ⟨hx, hx'⟩
      · exact .inl hx
      · exact .inr ⟨hx, by omega⟩
      · exact .inr ⟨by omega, hx'⟩
    · rw [(q1 e).1, (q1 e).2, (q2 e).1, (q2 e).2]; exact ⟨rfl, rfl⟩
    · simp only [List.length_append]; omega
    · simp only [List.length_append]; omega
    · omega
    · simp only [List.length_append]; omega
    · intro x y hx
      rcases hx with hx | hx
      · have hx1 : Hdr h1 a b o x y := (Hdr.hdr hd1).2 hx
        rw [hst2 x y hx1.foot, hd1 x y hx]
      · have hx1 : Hdr h1 c b (o + k) x y := (Hdr.hdr fun x y hx => hst x y hx.foot).2 hx
        rw [hd2 x y hx1, hst x y hx.foot]
    · refine F1.trans F2 (fun x hx q => ?_) (fun x y ⟨hm, q⟩ => ⟨hm, .inl q⟩) (fun x y hx ⟨hm, q⟩ => ⟨hm, .inr (hFc.1 q)⟩)
      rcases q with q | ⟨q, _⟩
      · exact q
      · omega
/-- a slice -/
theorem SeePre.sl (A : SeePre te ti ts (.sl sz t) h b o be E n0 s0 ns ss m a0) : ∃ ad n cp b2 o2 f g, cellOf h b o = some (.slice ad n cp) ∧ ((ad = none ∧ n = 0) ∨ ad = some ⟨b2, o2, none⟩) ∧ AllPre t sz h b2 o2 n E (n0 ++ [(n : Int)]) s0 f g m a0 ∧
    ∀ h', AllInv te ti ts t sz h b2 o2 n be E (n0 ++ [(n : Int)]) s0 f g m a0 n h' → SeePost te ti ts (.sl sz t) h b o be E n0 s0 ns ss m a0 (.ret (.tuple #[])) h' := by
  obtain ⟨r, eye, dis, na, wr, ln, ls, la⟩ := A
  rcases r with ⟨hc, rfl, rfl⟩ | ⟨b2, o2, n, cp, hc, f, g, hr, rfl, rfl⟩
  · simp only [List.length_cons, List.length_nil] at ln ls la
    refine ⟨none, 0, 0, 0, 0, fun _ => [], fun _ => [], hc, .inl ⟨rfl, rfl⟩, ⟨fun j hj => by omega, fun j hj => by omega, fun _ j hj => by omega, fun _ i j hj => by omega, fun _ j hj => by omega, by simpa [catN] using ln, by simpa [catN] using ls, by simp [catN]; omega⟩, ?_⟩
    rintro h' ⟨f', g', at', eye', _, _, _, F, l1, l2⟩
    simp only [catN, List.append_nil, List.length_nil] at eye' l1 l2
    have hb := dis b o (.inl ⟨rfl, rfl⟩)
    have hcc : ∀ y, cellOf h' b y = cellOf h b y := fun y => F.cell b hb.2 hb.1 y fun ⟨_, j, hj, _⟩ => by omega
    refine ⟨rfl, [0], [], at', by rw [List.append_nil]; exact eye', .inl ⟨by rw [hcc]; exact hc, rfl, rfl⟩, fun _ => ⟨rfl, rfl⟩, ⟨rfl, rfl, l1, ?_⟩, ?_, F.mono (fun _ _ q => q) fun x y _ ⟨_, j, hj, _⟩ => by omega⟩
    · simp only [List.length_cons, List.length_nil]; omega
    · intro x y hx
      rcases hx with ⟨rfl, rfl⟩ | ⟨_, _, _, _, q, _⟩
      · exact hcc _
      · rw [hc] at q; cases q
  · simp only [List.length_cons] at ln ls la
    have hin : ∀ j, j < n → ∀ {x y}, Foot h t b2 (o2 + j * sz) x y → Foot h (.sl sz t) b o x y := fun j hj x y hx => .inr ⟨b2, o2, n, cp, hc, j, hj, hx⟩
    have hb := dis b o (.inl ⟨rfl, rfl⟩)
    refine ⟨some ⟨b2, o2, none⟩, n, cp, b2, o2, f, g, hc, .inr rfl, ⟨hr, fun j hj x y hx => dis x y (hin j hj hx), fun hm j hj => ((na hm b2 o2 n cp hc).1 j hj).1, fun hm i j hi hj hne x y hx => (na hm b2 o2 n cp hc).2 i j hi hj hne x y hx, fun hm j hj x y hx => wr hm x y (hin j hj hx), ?_, ls, ?_⟩, ?_⟩
    · simp only [List.length_append, List.length_cons, List.length_nil]; omega
    · constructor <;> omega
    · rintro h' ⟨f', g', at', eye', r1, _, hd, F, l1, l2⟩
      have hcc : cellOf h' b o = cellOf h b o := F.cell b hb.2 hb.1 o fun ⟨hm, j, hj, q⟩ => ((na hm b2 o2 n cp hc).1 j hj).2 q
      refine ⟨rfl, (n : Int) :: catN f' n, catN g' n, at', ?_, .inr ⟨b2, o2, n, cp, hcc.trans hc, f', g', fun j hj => (r1 j hj).1, rfl, rfl⟩, fun e => ?_, ⟨?_, ?_, l1, ?_⟩, ?_, F.mono (fun _ _ q => q) fun x y _ ⟨hm, j, hj, q⟩ => ⟨hm, hin j hj q⟩⟩
      · rw [show n0 ++ (n : Int) :: catN f' n = n0 ++ [(n : Int)] ++ catN f' n by simp]; exact eye'
      · rw [catN_congr (f := f') (g := f) fun j hj => ((r1 j hj).2.1 e).1, catN_congr (f := g') (g := g) fun j hj => ((r1 j hj).2.1 e).2]; exact ⟨rfl, rfl⟩
      · simp only [List.length_cons]; rw [catN_len fun j hj => (r1 j hj).2.2.1]
      · exact catN_len fun j hj => (r1 j hj).2.2.2
      · simp only [List.length_cons]; omega
      · intro x y hx
        rcases hx with ⟨rfl, rfl⟩ | ⟨b3, o3, n3, c3, q, j, hj, hx⟩
        · exact hcc
        · rw [hc] at q
          cases q
          exact hd j hj x y hx
end
end Go.Ab
/- Things in memory: ints, pairs, what a call may answer. -/
namespace Go.Ab
open Go.RowKit
section
variable {P : Program} {h h' : Hp} {b o : Nat} {v : Value} {l : List Int}
theorem cellOf_of {c : List Value} {ro : Bool} {el : Nat} {j : Nat} (hg : h.get b = some (.cells c ro el)) : cellOf h b j = c[j]? := by unfold cellOf; rw [hg]
def seenInts (l : List Int) : List Int := (l.length : Int) :: catN (fun j => [l.getD j 0]) l.length
theorem catN_one (f : Nat → Int) : ∀ n, (catN (fun j => [f j]) n).length = n
  | 0 => rfl
  | n + 1 => by simp [catN, catN_one f n]
theorem catN_nil {α : Type} : ∀ n, catN (fun _ => ([] : List α)) n = []
  | 0 => rfl
  | n + 1 => by simp [catN, catN_nil n]
theorem seenInts_length (l : List Int) : (seenInts l).length = l.length + 1 := by unfold seenInts; rw [List.length_cons, catN_one]
theorem rep_ints (hc : cellOf h b o = some v) (hv : IsSl 1 h v (ints l) l.length) : Rep h (.sl 1 .int) b o (seenInts l) [] := by
  obtain ⟨_, ⟨rfl, h2⟩ | ⟨i, o2, c, ob, ro, e, rfl, h2, h3, h4, _⟩⟩ := hv
  · obtain rfl : l = [] := List.length_eq_zero_iff.1 h2
    exact .inl ⟨hc, rfl, rfl⟩
  · refine .inr ⟨i, o2, l.length, c, hc, fun j => [l.getD j 0], fun _ => [], fun j hj => ⟨l.getD j 0, ?_, rfl, rfl⟩, rfl, (catN_nil _).symm⟩
    rcases h4 with h4 | h4
    · omega
    · rw [cellOf_of h3]
      have e : (List.take (l.length * 1) (List.drop o2 ob))[j]? = (ints l)[j]? := by rw [h4]
      rw [ints_get?, List.getElem?_take, if_pos (by omega), List.getElem?_drop] at e
      rw [Nat.mul_one, e]
      simp [List.getD_eq_getElem?_getD, hj]
/-- where a slice lies -/
def At (v : Value) (x : Nat) : Prop := ∃ o2 n c, v = .slice (some ⟨x, o2, none⟩) n c
theorem foot_ints (hc : cellOf h b o = some v) {x y : Nat} (hf : Foot h (.sl 1 .int) b o x y) : (x = b ∧ y = o) ∨ At v x := by
  rcases hf with hf | ⟨b2, o2, n, c, h1, j, h2, h3⟩
  · exact .inl hf
  · rw [hc] at h1
    cases h1
    obtain ⟨rfl, _⟩ := h3
    exact .inr ⟨_, _, _, rfl⟩
theorem na_ints (hc : cellOf h b o = some v) (hne : ∀ x, At v x → x ≠ b) : NA h (.sl 1 .int) b o := by
  intro b2 o2 n c h1
  rw [hc] at h1
  cases h1
  have := hne b2 ⟨_, _, _, rfl⟩
  refine ⟨fun j hj => ⟨trivial, fun ⟨q, _⟩ => this q.symm⟩, fun i j hi hj hne x y ⟨h1, h2⟩ ⟨h3, h4⟩ => by omega⟩
def pair2 : SeeTy := .seq .int 1 .int
theorem foot_pairs (hc : cellOf h b o = some v) {x y : Nat} (hf : Foot h (.sl 2 pair2) b o x y) : (x = b ∧ y = o) ∨ At v x := by
  rcases hf with hf | ⟨b2, o2, n, c, h1, j, h2, h3⟩
  · exact .inl hf
  · rw [hc] at h1
    cases h1
    rcases h3 with ⟨rfl, _⟩ | ⟨rfl, _⟩
    · exact .inr ⟨_, _, _, rfl⟩
    · exact .inr ⟨_, _, _, rfl⟩
theorem na_pairs (hc : cellOf h b o = some v) (hne : ∀ x, At v x → x ≠ b) : NA h (.sl 2 pair2) b o := by
  intro b2 o2 n c h1
  rw [hc] at h1
  cases h1
  have := hne b2 ⟨_, _, _, rfl⟩
  refine ⟨fun j hj => ⟨⟨trivial, trivial, fun x y ⟨h1, h2⟩ ⟨h3, h4⟩ => by omega⟩, fun q => ?_⟩, fun i j hi hj hne x y ha hb => ?_⟩
  · rcases q with ⟨q, _⟩ | ⟨q, _⟩ <;> exact this q.symm
  · rcases ha with ⟨_, h1⟩ | ⟨_, h1⟩ <;> rcases hb with ⟨_, h2⟩ | ⟨_, h2⟩ <;> omega
theorem rep_pairs {n : Nat} (hc : cellOf h b o = some v) (hv : (v = .slice none 0 0 ∧ n = 0) ∨ ∃ rb c ro e, v = .slice (some ⟨rb, 0, none⟩) n c ∧ h.get rb = some (.cells (ints l) ro e) ∧ l.length = n * 2) : ∃ ns ss, Rep h (.sl 2 pair2) b o ns ss ∧ ns.length = 1 + n * 2 ∧ ss = [] := by
  rcases hv with ⟨rfl, rfl⟩ | ⟨rb, c, ro, e, rfl, h3, h4⟩
  · exact ⟨_, _, .inl ⟨hc, rfl, rfl⟩, rfl, rfl⟩
  · refine ⟨_, _, .inr ⟨rb, 0, n, c, hc, fun j => [l.getD (j * 2) 0, l.getD (j * 2 + 1) 0], fun _ => [], fun j hj => ⟨[l.getD (j * 2) 0], [], [l.getD (j * 2 + 1) 0], [], ⟨_, ?_, rfl, rfl⟩, ⟨_, ?_, rfl, rfl⟩, rfl, rfl⟩, rfl, rfl⟩, ?_, catN_nil _⟩
    · rw [cellOf_of h3, ints_get?, Nat.zero_add]
      have : j * 2 < l.length := by omega
      simp [List.getD_eq_getElem?_getD, this]
    · rw [cellOf_of h3, ints_get?, Nat.zero_add]
      have : j * 2 + 1 < l.length := by omega
      simp [List.getD_eq_getElem?_getD, this]
    · rw [List.length_cons]
      have : ∀ (f g : Nat → Int) n, (catN (fun j => [f j, g j]) n).length = n * 2 := by
        intro f g n
        induction n with
        | zero => rfl
        | succ n ih => simp only [catN, List.length_append, ih, List.length_cons, List.length_nil]; omega
      rw [this (fun j => l.getD (j * 2) 0) (fun j => l.getD (j * 2 + 1) 0)]
      omega
/-- a heap that goes on from another -/
def Ext (h h' : Hp) : Prop := h.next ≤ h'.next ∧ ∀ i, i < h.next → h'.get i = h.get i
theorem Ext.refl (h : Hp) : Ext h h := ⟨Nat.le_refl _, fun _ _ => rfl⟩
theorem Ext.trans {h1 h2 h3 : Hp} (a : Ext h1 h2) (b : Ext h2 h3) : Ext h1 h3 := ⟨Nat.le_trans a.1 b.1, fun i hi => (b.2 i (Nat.lt_of_lt_of_le hi a.1)).trans (a.2 i hi)⟩
theorem Ext.ov {L : List (Nat × AObj)} {k : Nat} : Ext h (Ab.ov h [] L k) := ⟨by rw [ov_next]; unfold loc; omega, fun i hi => ov_low0 hi⟩
/-- one thing, with its places in Z -/
structure Thing (h : Hp) (t : SeeTy) (b : Nat) (Z : Nat → Prop) (ns : List Int) (ss : List ByteArray) : Prop where
  rep : Rep h t b 0 ns ss
  foot : ∀ x y, Foot h t b 0 x y → Z x
  na : NA h t b 0
  wr : ∀ x y, Foot h t b 0 x y → ∃ c e, h.get x = some (.cells c false e)
  ln : ns.length ≤ 10000
  ls : ss.length ≤ 10000
/-- what a call answers to apart: no thing, or a function that sees one -/
def ResL (P : Program) (te ti ts : Nat) (h0 h' : Hp) (v : Value) : Prop := v = .slice none 0 0 ∨ ∃ lb gg t b ns ss, v = .slice (some ⟨lb, 0, none⟩) 1 1 ∧ h0.next ≤ lb ∧ lb < h'.next ∧ (∃ ro el, h'.get lb = some (.cells [.func (.func gg) #[] #[.pointer (some ⟨b, 0, none⟩)]] ro el)) ∧ Enters P gg ∧ SeeOK P te ti ts gg t ∧
  Thing h' t b (fun x => h0.next ≤ x ∧ x < h'.next ∧ x ≠ lb) ns ss
theorem thing_ints {L : List (Nat × AObj)} {k j el : Nat} {Z : Nat → Prop} (hj : lk L j = some (.cells [v] false el)) (hZ : Z (loc h j)) (hl : l.length ≤ 1000) (hv : (v = .slice none 0 0 ∧ l = []) ∨ ∃ i c e, v = .slice (some ⟨loc h i, 0, none⟩) l.length c ∧ lk L i = some (.cells (ints l) false e) ∧ i < k ∧ Z (loc h i) ∧ i ≠ j ∧ CapOK c l.length 1) :
    ∃ ns ss, Thing (Ab.ov h [] L k) (.sl 1 .int) (loc h j) Z ns ss := by
  have hg : (Ab.ov h [] L k).get (loc h j) = some (.cells [v] false el) := by rw [ov_loc, hj]
  have hc : cellOf (Ab.ov h [] L k) (loc h j) 0 = some v := cellOf_of hg
  have hz : ∀ x, At v x → Z x ∧ x ≠ loc h j ∧ ∃ c e, (Ab.ov h [] L k).get x = some (.cells c false e) := by
    rintro x ⟨o2, n, c, hx⟩
    rcases hv with ⟨rfl, _⟩ | ⟨i, c, e, rfl, h1, _, h3, h4, _⟩
    · cases hx
    · cases hx
      exact ⟨h3, fun q => h4 (loc_iff.1 q), _, _, by rw [ov_loc]; exact h1⟩
  refine ⟨_, _, ⟨rep_ints (l := l) hc ?_, fun x y hx => ?_, na_ints hc fun x hx => (hz x hx).2.1, fun x y hx => ?_, by rw [seenInts_length]; omega, by simp⟩⟩
  · refine ⟨by simp, ?_⟩
    rcases hv with ⟨rfl, rfl⟩ | ⟨i, c, e, rfl, h1, h2, _, _, h5⟩
    · exact .inl ⟨rfl, rfl⟩
    · refine .inr ⟨_, _, _, _, _, _, rfl, by rw [ov_next, loc_lt]; exact h2, by rw [ov_loc]; exact h1, .inr ?_, h5⟩
      rw [List.drop_zero, List.take_of_length_le (by simp)]
  · rcases foot_ints hc hx with ⟨rfl, _⟩ | hx
    · exact hZ
    · exact (hz x hx).1
  · rcases foot_ints hc hx with ⟨rfl, _⟩ | hx
    · exact ⟨_, _, hg⟩
    · exact (hz x hx).2.2
theorem thing_pairs {L : List (Nat × AObj)} {k j n el : Nat} {Z : Nat → Prop} (hj : lk L j = some (.cells [v] false el)) (hZ : Z (loc h j)) (hn : n ≤ 1000) (hl : l.length = n * 2) (hv : (v = .slice none 0 0 ∧ n = 0) ∨ ∃ i c e, v = .slice (some ⟨loc h i, 0, none⟩) n c ∧ lk L i = some (.cells (ints l) false e) ∧ Z (loc h i) ∧ i ≠ j) :
    ∃ ns ss, Thing (Ab.ov h [] L k) (.sl 2 pair2) (loc h j) Z ns ss := by
  have hg : (Ab.ov h [] L k).get (loc h j) = some (.cells [v] false el) := by rw [ov_loc, hj]
  have hc : cellOf (Ab.ov h [] L k) (loc h j) 0 = some v := cellOf_of hg
  have hz : ∀ x, At v x → Z x ∧ x ≠ loc h j ∧ ∃ c e, (Ab.ov h [] L k).get x = some (.cells c false e) := by
    rintro x ⟨o2, n, c, hx⟩
    rcases hv with ⟨rfl, _⟩ | ⟨i, c, e, rfl, h1, h3, h4⟩
    · cases hx
    · cases hx
      exact ⟨h3, fun q => h4 (loc_iff.1 q), _, _, by rw [ov_loc]; exact h1⟩
  obtain ⟨ns, ss, hr, h1, h2⟩ := rep_pairs (l := l) (n := n) hc (hv.imp id fun ⟨i, c, e, q1, q2, _, _⟩ => ⟨loc h i, c, _, e, q1, by rw [ov_loc]; exact q2, hl⟩)
  refine ⟨_, _, ⟨hr, fun x y hx => ?_, na_pairs hc fun x hx => (hz x hx).2.1, fun x y hx => ?_, by omega, by rw [h2]; simp⟩⟩
  · rcases foot_pairs hc hx with ⟨rfl, _⟩ | hx
    · exact hZ
    · exact (hz x hx).1
  · rcases foot_pairs hc hx with ⟨rfl, _⟩ | hx
    · exact ⟨_, _, hg⟩
    · exact (hz x hx).2.2
end
end Go.Ab
/- unsafe.SliceData of a slice that is not empty. -/
namespace Go.Ab
theorem AOne.usd {P : Program} {o : Oper} {T : Nat → Value} {h : Hp} {c : Call} {x : Operand} {a : Addr} {n k : Nat} (hop : o.op = .call c) (hc : c.callee = .builtin .unsafeSliceData) (ha : c.args = #[x]) (hx : evo T x = .slice (some a) n k) (hn : 0 < n) {R RP : Value → Hp → Prop} (q : R (.pointer (some a)) h) : AOne P o T h R RP := fun ρ w ev H hv => by
  simp only [hop, Op.operands, Call.operands, hc, ha] at hv
  have hxv := hv x (by simp)
  rw [hx] at hxv
  obtain ⟨l, g1, g2, g3⟩ := hxv
  rcases g3 with ⟨k', e, hk, _⟩ | ⟨h0, _⟩
  · obtain ⟨j, rfl⟩ : ∃ j, k' = j + 1 := ⟨k' - 1, by omega⟩
    have hrun : (execOp ev o).run P w = .ok (.value (.pointer (some ⟨l.blk, l.off + a.off, none⟩))) w := by
      simp [execOp, hop, resolve, hc, ha, e, Deferred.ofValue, invoke, builtin, Lib.run_unsafeSliceData_row]
    unfold Raw
    rw [hrun]
    exact ⟨ρ, .pointer (some a), h, H, Fr.refl _ _ _ _, ⟨l, g1, g2, rfl⟩, q⟩
  · omega
theorem lies_one {P : Program} {e : TypeId} (hc : P.cellsOf e = 1) (count off n : Nat) (hn : off + n ≤ count) : liesAt P P.depth e count off e n = true := by
  have hd : P.depth = (2 * (P.types.size + Made.depth) + 1) + 1 := rfl
  rw [hd]
  simp only [liesAt, Bool.or_eq_true]
  left
  rw [hd]
  simp [rowAt, hc, hn, sameLayout, Nat.mod_one]
theorem freeze_run {P : Program} (a : Addr) (n : Nat) (w : World) : (freeze a n).run P w = .ok () (w.freeze a n) := rfl
theorem ustr_run {P : Program} {w : World} (pt it ty e : TypeId) (hp : P.underlying pt = some (.pointer e)) (hc : P.cellsOf e = 1) (g off cells : Nat) (hsh : w.shape? g = some (e, cells)) (l : List UInt8) (h0 : l ≠ []) (hn : off + l.length ≤ cells) (h63 : l.length ≤ 9223372036854775807)
    (hcell : ∀ j x, l[j]? = some x → w.cell? ((⟨g, off, none⟩ : Addr).add j) = some (.int .u8 x.toNat)) :
    (Builtin.unsafeString_ #[pt, it] ty #[.pointer (some ⟨g, off, none⟩), .int .i64 l.length]).run P w = .ok (.string ⟨l.toArray⟩) (w.freeze ⟨g, off, none⟩ l.length) := by
  have hl : l.length ≠ 0 := by simpa using h0
  have hlb := Lib.run_loadBytes (P := P) w l ⟨g, off, none⟩ .empty hcell
  have hlies := lies_one (P := P) hc (cells / P.cellsOf e) off l.length (by rw [hc]; simpa using hn)
  have h63' : ¬ (9223372036854775807 : Int) < (l.length : Int) := by omega
  have hdef : Builtin.unsafeString_ #[pt, it] ty #[.pointer (some ⟨g, off, none⟩), .int .i64 l.length] =
      (do
        let n ← asInt (.int .i64 l.length)
        if n < 0 then runtimePanic (.error "unsafe.String: len out of range")
        if n > IntKind.i64.max then unsupported (.unsafePointer "String: a length above the largest int")
        if n = 0 then pure (.string .empty)
        else if ← variablesAt ⟨g, off, none⟩ (← elemOf pt) n.toNat then do
          let s ← loadBytes ⟨g, off, none⟩ .empty n.toNat
          freeze ⟨g, off, none⟩ n.toNat
          pure (.string s)
        else unsupported (.unsafePointer "String: not so many bytes at ptr")) := rfl
  rw [hdef]
  have hmax : IntKind.i64.max = 9223372036854775807 := rfl
  have hneg : ¬ (l.length : Int) < 0 := by omega
  simp [asInt, asIntOf, hmax, h63', hneg, hl, variablesAt, hsh, elemOf, run_underlying hp, hlies, hlb]
  try rfl
/-- bytes, as a string -/
def bytesOf (l : List Int) : ByteArray := ⟨(l.map fun x => UInt8.ofNat x.toNat).toArray⟩
def IsBytes (l : List Int) : Prop := ∀ x ∈ l, 0 ≤ x ∧ x < 256
theorem AOne.ustr {P : Program} {o : Oper} {T : Nat → Value} {h : Hp} {c : Call} {x y : Operand} {g n : Nat} {l : List Int} {cells : List Value} {e : Nat} {pt it : TypeId} (hop : o.op = .call c) (hc : c.callee = .builtin .unsafeString) (ha : c.args = #[x, y]) (hty : c.argTypes = #[pt, it])
    (hp : P.underlying pt = some (.pointer e)) (hce : P.cellsOf e = 1) (hx : evo T x = .pointer (some ⟨g, 0, none⟩)) (hy : evo T y = .int .i64 n) (hn : n = l.length) (h0 : l ≠ []) (h63 : l.length ≤ 9223372036854775807) (hg : h.get g = some (.cells cells false e)) (hcells : cells = l.map (.int .u8)) (hb : IsBytes l)
    {R RP : Value → Hp → Prop} (q : R (.string (bytesOf l)) (h.set g .dead)) : AOne P o T h R RP := fun ρ w ev H hv => by
  simp only [hop, Op.operands, Call.operands, hc, ha] at hv
  have hxv := hv x (by simp)
  have hyv := hv y (by simp)
  rw [hx] at hxv
  rw [hy] at hyv
  obtain ⟨lo, g1, g2, g3⟩ := hxv
  have hyv : ev y = .int .i64 n := hyv
  obtain ⟨l', cc, fr, k1, k2, k3, k4, k5, k6⟩ := H.cells hg
  have k1 : ρ g = some l' := k1
  have g1 : ρ g = some lo := g1
  rw [g1] at k1; cases k1
  have hlen : cells.length = l.length := by simp [hcells]
  have hl8 : ∀ (m : List Int), (m.map fun x => UInt8.ofNat x.toNat).length = m.length := fun m => by simp
  have hcell : ∀ (j : Nat) (b : UInt8), (l.map fun x => UInt8.ofNat x.toNat)[j]? = some b → w.cell? ((⟨lo.blk, lo.off, none⟩ : Addr).add j) = some (.int .u8 b.toNat) := fun j b hj => by
    rw [List.getElem?_map] at hj
    cases hlj : l[j]? with
    | none => rw [hlj] at hj; cases hj
    | some z =>
      rw [hlj] at hj
      cases hj
      obtain ⟨v', m1, m2⟩ := k6 j (.int .u8 z) (by rw [hcells, List.getElem?_map, hlj]; rfl)
      have m2 : v' = .int .u8 z := m2
      obtain ⟨z0, z1⟩ := hb z (List.mem_of_getElem? hlj)
      have hz : ((UInt8.ofNat z.toNat).toNat : Int) = z := by
        rw [UInt8.toNat_ofNat']
        omega
      have hz2 : max z 0 % 256 = z := by omega
      rw [m2] at m1
      unfold World.cell? Addr.add
      by_cases hj0 : j = 0
      · subst hj0
        simp only [Nat.add_zero] at m1
        simp [k2, m1, hz2]
      · simp [k2, m1, hz2, hj0]
  have hrun := ustr_run (P := P) (w := w) pt it o.type e hp hce lo.blk lo.off cc.size (shape_cells k2) (l.map fun x => UInt8.ofNat x.toNat) (by simpa using h0) (by rw [hl8]; omega) (by rw [hl8]; exact h63) hcell
  rw [hl8] at hrun
  have hr : (execOp ev o).run P w = .ok (.value (.string (bytesOf l))) (w.freeze ⟨lo.blk, lo.off, none⟩ l.length) := by
    have hev : ev x = .pointer (some ⟨lo.blk, lo.off, none⟩) := by simpa using g3
    rw [hn] at hyv
    simp [execOp, hop, resolve, hc, ha, hty, hev, hyv, Deferred.ofValue, invoke, builtin, hrun, bytesOf]
  unfold Raw
  rw [hr]
  have hb2 : ∀ b, b ≠ lo.blk → (w.freeze ⟨lo.blk, lo.off, none⟩ l.length).heap[b]? = w.heap[b]? := fun b hb => by
    unfold World.freeze
    split
    · rfl
    · simp only [Array.getElem?_modify]
      rw [if_neg (by exact fun e => hb e.symm)]
  have hsz : (w.freeze ⟨lo.blk, lo.off, none⟩ l.length).heap.size = w.heap.size := by
    unfold World.freeze; split <;> simp
  have hos : (w.freeze ⟨lo.blk, lo.off, none⟩ l.length).os = w.os ∧ (w.freeze ⟨lo.blk, lo.off, none⟩ l.length).tape = w.tape ∧ (w.freeze ⟨lo.blk, lo.off, none⟩ l.length).output = w.output := by
    unfold World.freeze; split <;> exact ⟨rfl, rfl, rfl⟩
  exact ⟨ρ, .string (bytesOf l), h.set g .dead, H.put hg rfl g1 _ hsz hb2 trivial, Fr.put hg rfl g1 _ hos.1 hos.2.1 hos.2.2 hsz hb2, rfl, q⟩
/-- an operation by itself, where the order is drawn -/
theorem PL.raw {P : Program} {ops : List Oper} {Q : APost} {QP : Value → Hp → Prop} {i : Nat} {o : Oper} {deps : List Nat} {p : List PStep} {L : List LP} {T : Nat → Value} {h : Hp} (hw : wantA ops T o = true)
    (q : AOne P o T h (fun v h' => ReF P h' deps L ∧ PL P ops Q QP p (left deps L) (putT T o.dst v) h') QP) : PL P ops Q QP (.ef i o deps :: p) L T h := by
  unfold PL
  exact .inl ⟨hw, q⟩
end Go.Ab
/- Ranges over functions: rounds, the statement, the function that holds one. -/
namespace Go.Ab
open Go.RowKit
/-- how a round's body is left -/
def roundQ (r k : Nat) (L : Loop) (R : Value → Hp → Prop) : APost
  | .normal, _, h => ∃ T, h.get r = some (.loop k { L with state := .busy } T) ∧ R (.bool true) (h.set r (.loop k { L with state := .ready, pending := none } T))
  | .ret, _, h => ∃ T, h.get r = some (.loop k { L with state := .busy } T) ∧ R (.bool false) (h.set r (.loop k { L with state := .done, pending := some .ret } T))
  | .exit i, _, h => ∃ T, h.get r = some (.loop k { L with state := .busy } T) ∧ R (.bool false) (h.set r (.loop k { L with state := .done, pending := some (.exit i) } T))
  | .goto i, _, h => ∃ T, h.get r = some (.loop k { L with state := .busy } T) ∧ R (.bool false) (h.set r (.loop k { L with state := .done, pending := some (.goto i) } T))
  | .panic _, _, _ => False
section
variable {P : Program} {N : Nat} {T : Nat → Value} {h : Hp}
theorem HR.loop {ρ : Ren} {w : World} {k r : Nat} {L : Loop} {T : Nat → Value} (H : HR P ρ h w) (hg : h.get r = some (.loop k L T)) : ρ r = some ⟨k, 0, (ρ r).elim 0 Loc.room⟩ ∧ w.heap[k]? = some (.loop L) ∧ ∀ t : Nat, VR ρ (T t) (L.tmps.getD t Go.undef) := by
  obtain ⟨l, h1, h2, h3, h4, h5⟩ := H.live r _ hg
  obtain ⟨b, o, room⟩ := l
  simp only at h2 h3 h4
  subst h2 h3
  exact ⟨by rw [h1]; rfl, h4, h5⟩
/-- a loop's record is written -/
theorem loop_put {B : Nat} {ρ : Ren} {w : World} {k r : Nat} {L : Loop} {T : Nat → Value} (H : HR P ρ h w) (hg : h.get r = some (.loop k L T)) (L' : Loop) (hL : L'.tmps = L.tmps) :
    HR P ρ (h.set r (.loop k L' T)) (w.putObj k (.loop L')) ∧ Fr B ρ h w ρ (h.set r (.loop k L' T)) (w.putObj k (.loop L')) := by
  obtain ⟨h1, h2, h3⟩ := H.loop hg
  have hk : k < w.heap.size := (Array.getElem?_eq_some_iff.1 h2).1
  have hb : ∀ b, b ≠ k → (w.putObj k (.loop L')).heap[b]? = w.heap[b]? := fun b hb => World.putObj_heap_other hb
  exact ⟨H.put hg rfl h1 _ World.putObj_size hb ⟨rfl, rfl, World.putObj_heap_same hk, by rw [hL]; exact h3⟩, Fr.put hg rfl h1 _ rfl rfl rfl World.putObj_size hb⟩
theorem loop_gone {B : Nat} {ρ : Ren} {w : World} {k r : Nat} {L : Loop} {T : Nat → Value} (H : HR P ρ h w) (hg : h.get r = some (.loop k L T)) (L' : Loop) :
    HR P ρ (h.set r .dead) (w.putObj k (.loop L')) ∧ Fr B ρ h w ρ (h.set r .dead) (w.putObj k (.loop L')) := by
  obtain ⟨h1, h2, h3⟩ := H.loop hg
  have hb : ∀ b, b ≠ k → (w.putObj k (.loop L')).heap[b]? = w.heap[b]? := fun b hb => World.putObj_heap_other hb
  exact ⟨H.put hg rfl h1 _ World.putObj_size hb trivial, Fr.put hg rfl h1 _ rfl rfl rfl World.putObj_size hb⟩
theorem AOne.yield {o : Oper} {c : Call} {f x : Operand} {k r p : Nat} {L : Loop} {Tb : Nat → Value} (hop : o.op = .call c) (hc : c.callee = .value f) (ha : c.args = #[x]) (hf : evo T f = .func (.yield k) #[] #[])
    (hg : h.get r = some (.loop k L Tb)) (hst : L.state = .ready) (hpa : L.params = #[p]) (hN : L.tmps.size = N) (hpN : p < N) {R RP : Value → Hp → Prop}
    (q : AWp P N L.assign (thenA (fun T' h' => ∃ T2, h'.get r = some (.loop k L T2) ∧ AWp P N L.body (roundQ r k L R) T' (h'.set r (.loop k { L with state := .busy } T2))) (fun _ _ _ => False)) (putT Tb (some p) (evo T x)) h) : AOne P o T h R RP := fun ρ w ev H hv => by
  simp only [hop, Op.operands, Call.operands, hc, ha, Array.toList_append, List.mem_append] at hv
  have hfv := hv f (.inl (by simp))
  have hxv := hv x (.inr (by simp))
  rw [hf] at hfv
  obtain ⟨x', y', e1, e2, e3⟩ := hfv
  obtain rfl : x' = #[] := by
    have := VRA.iff.1 e2
    cases x' with | mk l => cases l with | nil => rfl | cons => obtain ⟨_, _, e, _⟩ | e := this <;> cases e
  obtain rfl : y' = #[] := by
    have := VRA.iff.1 e3
    cases y' with | mk l => cases l with | nil => rfl | cons => obtain ⟨_, _, e, _⟩ | e := this <;> cases e
  obtain ⟨g1, g2, g3⟩ := H.loop hg
  have hrun : (execOp ev o).run P w = .ok (.round k L.fn (L.tmps.setIfInBounds p (ev x)) L.assign L.body) w := by
    have := run_yield (P := P) (args := #[ev x]) g2 (by rw [hpa]; rfl)
    rw [hpa] at this
    simp only [List.zip_toArray] at this
    simp [execOp, hop, resolve, hc, e1, Deferred.ofValue, invoke, ha] at this ⊢
    exact this
  unfold Raw
  rw [hrun]
  refine roundIn_of_wpIn trivial ?_
  have ht0 : TR ρ Tb N { tmps := L.tmps, defers := [] } := ⟨hN, g3⟩
  have ht : TR ρ (putT Tb (some p) (evo T x)) N { tmps := L.tmps.setIfInBounds p (ev x), defers := [] } := by
    have := ht0.put (d := some p) (fun i hi => by cases hi; exact hpN) hxv
    exact this
  refine wpIn_mono (q (some k) ρ w { tmps := L.tmps.setIfInBounds p (ev x), defers := [] } H ht) ?_
  rintro e a1 w1 ⟨e', ρ1, T1, h1, p1, p2, p3, p4, p5, p6⟩
  cases e' with
  | normal =>
    cases p1
    obtain ⟨T2, k1, k2⟩ := p6
    obtain ⟨j1, j2, j3⟩ := p2.loop k1
    obtain ⟨H2, F2⟩ := loop_put (B := h1.next) p2 k1 { L with state := .busy } rfl
    refine ⟨_, run_beginRound j2 hst, wpIn_mono (k2 (some k) ρ1 _ a1 H2 p4) ?_⟩
    have F12 := p3.trans F2 (Fr.next p3)
    have fin : ∀ (jump : Option Code) {a2 : Act} {w3 : World} {ρ3 : Ren} {h3 : Hp} {T3 : Nat → Value}, HR P ρ3 h3 w3 → Fr (h1.set r (.loop k { L with state := .busy } T2)).next ρ1 (h1.set r (.loop k { L with state := .busy } T2)) (w1.putObj k (.loop { L with state := .busy })) ρ3 h3 w3 → h3.get r = some (.loop k { L with state := .busy } T3) →
        R (.bool jump.isNone) (h3.set r (.loop k { L with state := if jump.isNone then .ready else .done, pending := jump } T3)) →
        ∃ v w', (Instr.endRound k jump).run P w3 = .ok v w' ∧ ∃ ρ' v2 h', HR P ρ' h' w' ∧ Fr h.next ρ h w ρ' h' w' ∧ VR ρ' v2 v ∧ R v2 h' := by
      intro jump a2 w3 ρ3 h3 T3 H3 F3 hg3 q3
      obtain ⟨m1, m2, m3⟩ := H3.loop hg3
      obtain ⟨H4, F4⟩ := loop_put (B := h.next) H3 hg3 { L with state := if jump.isNone then .ready else .done, pending := jump } rfl
      have hn : h.next ≤ (h1.set r (.loop k { L with state := .busy } T2)).next := (show h.next ≤ h1.next from Fr.next p3)
      exact ⟨_, _, run_endRound jump m2, ρ3, .bool jump.isNone, _, H4, (F12.trans F3 hn).trans F4 (Nat.le_refl _), rfl, q3⟩
    rintro e2 a2 w3 ⟨e3, ρ3, T3, h3, q1, q2, q3, q4, q5, q6⟩
    cases e3 with
    | normal => cases q1; obtain ⟨T4, m1, m2⟩ := q6; exact fin none (a2 := a2) q2 q3 m1 m2
    | ret => cases q1; obtain ⟨T4, m1, m2⟩ := q6; exact fin (some .ret) (a2 := a2) q2 q3 m1 m2
    | exit i => cases q1; obtain ⟨T4, m1, m2⟩ := q6; exact fin (some (.exit i)) (a2 := a2) q2 q3 m1 m2
    | goto i => cases q1; obtain ⟨T4, m1, m2⟩ := q6; exact fin (some (.goto i)) (a2 := a2) q2 q3 m1 m2
    | panic v => exact q6.elim
  | exit i => exact p6.elim
  | goto i => exact p6.elim
  | ret => exact p6.elim
  | panic v => exact p6.elim
theorem roundQ_mono {r k : Nat} {L : Loop} {R R' : Value → Hp → Prop} (hR : ∀ v h', R v h' → R' v h') (e : AEx) (T : Nat → Value) (h : Hp) (p : roundQ r k L R e T h) : roundQ r k L R' e T h := by
  cases e with
  | normal => obtain ⟨T, a, b⟩ := p; exact ⟨T, a, hR _ _ b⟩
  | ret => obtain ⟨T, a, b⟩ := p; exact ⟨T, a, hR _ _ b⟩
  | exit i => obtain ⟨T, a, b⟩ := p; exact ⟨T, a, hR _ _ b⟩
  | goto i => obtain ⟨T, a, b⟩ := p; exact ⟨T, a, hR _ _ b⟩
  | panic v => exact p.elim
theorem yield_mono {k r : Nat} {L : Loop} {R R' : Value → Hp → Prop} (hR : ∀ v h', R v h' → R' v h')
    (q : AWp P N L.assign (thenA (fun T' h' => ∃ T2, h'.get r = some (.loop k L T2) ∧ AWp P N L.body (roundQ r k L R) T' (h'.set r (.loop k { L with state := .busy } T2))) (fun _ _ _ => False)) T h) :
    AWp P N L.assign (thenA (fun T' h' => ∃ T2, h'.get r = some (.loop k L T2) ∧ AWp P N L.body (roundQ r k L R') T' (h'.set r (.loop k { L with state := .busy } T2))) (fun _ _ _ => False)) T h :=
  q.mono fun e T h p => by
    cases e with
    | normal => obtain ⟨T2, a, b⟩ := p; exact ⟨T2, a, b.mono (roundQ_mono hR)⟩
    | ret => exact p
    | exit i => exact p
    | goto i => exact p
    | panic v => exact p
end
end Go.Ab
