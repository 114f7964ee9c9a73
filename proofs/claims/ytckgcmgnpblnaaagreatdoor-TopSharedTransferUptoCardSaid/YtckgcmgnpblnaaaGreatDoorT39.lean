/- A part of the proof of a law over a given program: Top1, Top2, Top3, Top4, Top5. -/
import Derived.Test.YtckgcmgnpblnaaaGreatDoorCards
import Derived.Test.YtckgcmgnpblnaaaGreatDoorTie
import Derived.WalkKit
import Derived.ProofKit
import Derived.OpenShut
import Derived.ReadAgain
import Derived.Deep.DeepHandedRow
import Derived.Deep.DeepWitnessRowRef
import Derived.Lib.LaidTab
import Derived.Lib.LaidU8
import Derived.Test.YtckgcmgnpblnaaaGreatDoorT18
import Derived.Test.YtckgcmgnpblnaaaGreatDoorT38
set_option linter.unusedVariables false
set_option linter.unusedSimpArgs false
namespace Go.Ab
open Go.Proofs Go.Proofs.YtckgcmgnpblnaaaGreatDoor Go.RowKit Go.ChangeShapes Go.WideShapes Go.ChangeAt
theorem kids : Kids Tryz.prog (· < Tryz.prog.types.size) := kids_rows (by kernel_rfl) (by kernel_rfl)
theorem slicesFull : ∀ t e, t < Tryz.prog.types.size → Tryz.prog.underlying t = some (.slice e) → 0 < Tryz.prog.cellsOf e := slices_full_of Tryz.prog (by kernel_rfl)
theorem good_block {w : World} {p : MemPlace} (g : Go.Good w p) : p.block < w.heap.size := by
  cases p with
  | cell b o =>
    obtain ⟨v, hv, _⟩ := g
    show b < w.heap.size
    unfold World.cell? at hv
    cases h : w.heap[b]? with
    | none => simp [h] at hv
    | some o => exact (Array.getElem?_eq_some_iff.1 h).1
  | map b =>
    obtain ⟨es, clock, h⟩ := g
    exact (Array.getElem?_eq_some_iff.1 h).1
/-- a law that changes nothing says what its row asks -/
theorem law_post {H : Type} {enc : TypeId × Value → H} {W W' : World} {f : Func} {t : TypeId} (hp : f.params = #[t]) (ht : t < Tryz.prog.types.size) (hr : f.resultTypes = #[4]) {s : ChangeSpec} (hs : s.vars = []) (hfn : ∀ d : DataW H, s.fn H [d] = { results := [.lit (.bool true)], args := [d] })
    {args : Array Value} {ds gs : List (DataW H)} {before : List MemPlace} (hW : DataW.Whole enc Tryz.prog f.params.toList s.vars false W args.toList ds gs before) (hos : W'.os = W.os) (hout : W'.output = W.output) (hB : ∀ b, b < W.heap.size → W'.heap[b]? = W.heap[b]?) :
    s.post enc Tryz.prog f false true false false W args (.bool true) W' := by
  obtain ⟨p, q, hA, hV, rfl, hfz, hnd⟩ := id hW
  rw [hs] at hV
  obtain ⟨rfl, rfl⟩ := trodVars_none hV
  simp only [hp] at hA
  obtain ⟨v0, vs0, d0, ds0, p0, q0, hargs, rfl, rfl, h0, r0⟩ := trodAll_cons hA
  obtain ⟨rfl, rfl, rfl⟩ := trodAll_nil r0
  have hgood : ∀ x ∈ p0, x.block < W.heap.size := fun x hx => by
    obtain ⟨n, hn⟩ := h0
    exact good_block (DataW.trod_good kids (fun h => by cases h) n t _ _ ht hn x hx)
  have h1 : DataW.Trod enc Tryz.prog W 0 (fun b => decide (b < W.heap.size)) true t v0 d0 p0 := DataW.Trod.respare kids slicesFull ht h0 (fun x hx => by simpa using hgood x hx)
  have h2 : DataW.Trod enc Tryz.prog W' 0 (fun b => decide (b < W.heap.size)) true t v0 d0 p0 := by
    obtain ⟨n, hn⟩ := h1
    refine ⟨n, DataW.trod_carry n t _ _ hn fun x hx => ?_⟩
    have := hB _ (hgood x hx)
    cases x with
    | cell b o => exact World.cell?_of_block this
    | map b => exact this
  refine ⟨_, _, _, [], p0 ++ [], [], hW, ?_, ?_, ?_, ?_, fun h => by cases h⟩
  · simp only [List.append_nil, List.singleton_append, hfn, hr]
    exact trodAll_cons_mk (shut_bool Tryz.underlying4 _) trodAll_mk0
  · simp only [List.append_nil, hfn, hp, hargs]
    exact ⟨p0, [], h2, rfl, by simp⟩
  · rw [hs]
    simp only [List.append_nil, hfn]
    rfl
  · refine ⟨hos, hout, fun i hi => ?_⟩
    rw [hB i hi]
    cases W.heap[i]? with
    | none => rfl
    | some o => cases o <;> first | exact ⟨rfl, rfl, rfl, fun _ _ => rfl⟩ | exact .inr ⟨rfl, rfl⟩ | rfl
end Go.Ab
namespace Go.Ab
open Go.Proofs Go.Proofs.YtckgcmgnpblnaaaGreatDoor Go.RowKit Go.ChangeShapes Go.WideShapes Go.ChangeAt
/-- pairs of cells, one behind the other -/
theorem pairs_list : ∀ (L : List (Value × Value)) (cs : List Value), cs.length = 2 * L.length → (∀ i p, L[i]? = some p → (cs.drop (i * 2)).take 2 = [p.1, p.2]) → cs = L.flatMap fun p => [p.1, p.2]
  | [], cs, hl, _ => by simpa using hl
  | p :: L, cs, hl, h => by
    have h0 := h 0 p rfl
    simp only [Nat.zero_mul, List.drop_zero] at h0
    have ih := pairs_list L (cs.drop 2) (by simp at hl ⊢; omega) fun i q hi => by
      have := h (i + 1) q (by simpa using hi)
      rw [List.drop_drop]
      rw [show 2 + i * 2 = (i + 1) * 2 by omega]
      exact this
    have : cs = cs.take 2 ++ cs.drop 2 := (List.take_append_drop 2 cs).symm
    rw [this, h0, ih]
    rfl
theorem row0 : ((begin Tryz.prog (fun _ _ => 0) default).world.heap[0]?).bind Obj.row? = some (#[.slice none 0 0], 22) := by kernel_rfl
theorem row_some {g : Nat} (h : ((((begin Tryz.prog (fun _ _ => 0) default).world.heap[g]?).bind Obj.row?).isSome) = true) : ∃ z t, ((begin Tryz.prog (fun _ _ => 0) default).world.heap[g]?).bind Obj.row? = some (z, t) := by
  obtain ⟨⟨z, t⟩, e⟩ := Option.isSome_iff_exists.1 h
  exact ⟨z, t, e⟩
theorem row3 : ∃ z t, ((begin Tryz.prog (fun _ _ => 0) default).world.heap[3]?).bind Obj.row? = some (z, t) := row_some (by kernel_rfl)
theorem row2 : ∃ z, ((begin Tryz.prog (fun _ _ => 0) default).world.heap[2]?).bind Obj.row? = some (z, 264) := by
  obtain ⟨z, t, e⟩ := row_some (g := 2) (by kernel_rfl)
  have h : ((((begin Tryz.prog (fun _ _ => 0) default).world.heap[2]?).bind Obj.row?).map (·.2)) = some 264 := by kernel_rfl
  rw [e] at h
  obtain rfl : t = 264 := Option.some.inj h
  exact ⟨z, e⟩
def accI : List (List Int) := [[128, 191], [160, 191], [128, 159], [144, 191], [128, 143], [0, 0], [0, 0], [0, 0], [0, 0], [0, 0], [0, 0], [0, 0], [0, 0], [0, 0], [0, 0], [0, 0]]
def accL : List (Value × Value) := accI.map fun l => (.int .u8 (l.getD 0 0), .int .u8 (l.getD 1 0))
/-- what the listed variables hold -/
structure Laid (W : World) : Prop where
  v0 : ∃ (a : Addr) (fr : Nat × Nat), W.heap[0]? = some (.cells #[.slice (some a) 16 16] 22 fr) ∧ a.spot = none ∧ ∀ (j : Nat) (v : Value), c4[j]? = some v → W.cell? (a.add j) = some v
  v2 : ∃ (cc : Array Value) (fr : Nat × Nat), W.heap[2]? = some (.cells cc 264 fr) ∧ cc.toList = c2
  sz : 3 < W.heap.size
theorem cell_spot {w : World} {a : Addr} {v : Value} (h : w.cell? a = some v) : a.spot = none := by
  unfold World.cell? at h
  split at h
  · split at h
    · cases h
    · rename_i hs; simpa using hs
  · cases h
theorem laid_of {W : World} (hs : W.ShapedOpen Tryz.prog) (hL : laidMetH Tryz.prog Rows.topSharedTransferUptoRow.laid W) : Laid W := by
  have hL : laidMet Tryz.prog Rows.topSharedTransferUptoRow.laid W := hL
  have m2 := Lib.laidMet.reads hL (n := "unicode/utf8.acceptRanges") (d := Rows.laid_unicode_utf8_acceptRanges) (by simp [Rows.topSharedTransferUptoRow])
  have m0 := Lib.laidMet.reads hL (n := "tusche/mark.count") (d := Rows.laid_tusche_mark_count) (by simp [Rows.topSharedTransferUptoRow])
  obtain ⟨cs0, k0, s0, _⟩ := hs.1 0 _ _ (by decide) row0
  obtain ⟨z2, r2⟩ := row2
  obtain ⟨z3, t3, r3⟩ := row3
  obtain ⟨cs2, k2, s2, _⟩ := hs.1 2 _ _ (by decide) r2
  obtain ⟨cs3, k3, s3, _⟩ := hs.1 3 _ _ (by decide) r3
  refine ⟨?_, ?_, (Array.getElem?_eq_some_iff.1 k3).1⟩
  · obtain ⟨g, t, cs, fuel, p, hg, ht, hv, hr⟩ := m0
    obtain rfl : g = 0 := Option.some.inj ((show Tryz.prog.globalNamed "tusche/mark.count" = some 0 by kernel_rfl).symm.trans hg) |>.symm
    obtain rfl : t = 22 := Option.some.inj ((show (Tryz.prog.globals[0]?).map (·.type) = some 22 by kernel_rfl).symm.trans ht) |>.symm
    have hcs : cs = cs0 := by
      unfold World.var? at hv
      rw [hg] at hv
      simp only [Option.bind_some, k0] at hv
      exact (Option.some.inj hv).symm
    subst hcs
    rcases open_ints Tryz.underlying22 Tryz.underlying3 (by kernel_rfl) hr with ⟨_, e⟩ | ⟨a, len, cap, zs, e1, _, e3, e4, e5, e6, e7, e8⟩
    · cases e
    · simp only [if_true] at e5
      have e6 := congrArg Prod.fst e6
      simp only [Rows.laid_tusche_mark_count, DataW.slice.injEq, lits] at e6
      obtain ⟨e9, e10⟩ := e6
      have hd : zs.drop len = [] := by
        cases hz : zs.drop len with
        | nil => rfl
        | cons x l => rw [hz] at e10; cases e10
      have hlen : len = zs.length := by
        have := congrArg List.length hd
        simp at this
        omega
      rw [hlen, List.take_length] at e9
      have hzs : zs = [0,1,1,2,1,2,2,3,1,2,2,3,2,3,3,4] := by
        have hinj : ∀ (l m : List Int), l.map (fun n => (DataW.lit (.int .i64 n) : DataW Unit)) = m.map (fun n => (DataW.lit (.int .i64 n) : DataW Unit)) → l = m := by
          intro l
          induction l with
          | nil => intro m h; cases m with | nil => rfl | cons => cases h
          | cons x l ih => intro m h; cases m with | nil => cases h | cons y m => simp only [List.map_cons, List.cons.injEq, DataW.lit.injEq, Lit.int.injEq, true_and] at h; rw [h.1, ih m h.2]
        exact (hinj [0,1,1,2,1,2,2,3,1,2,2,3,2,3,3,4] zs e9).symm
      have hl16 : zs.length = 16 := by rw [hzs]; rfl
      refine ⟨a, (0, 0), ?_, ?_, ?_⟩
      · rw [k0]
        have : cs = #[.slice (some a) len cap] := by
          apply Array.ext'
          rw [e1]
        rw [this, hlen, ← e5, hl16]
      · have := e7 0 (by omega)
        exact (cell_spot this)
      · intro j v hj
        have hj' : j < 16 := by
          have := (List.getElem?_eq_some_iff.1 hj).1
          exact this
        rw [e7 j (by omega), hzs]
        have : ∀ j, j < 16 → (c4[j]? = some (Value.int .i64 (([0,1,1,2,1,2,2,3,1,2,2,3,2,3,3,4] : List Int).getD j 0))) := by
          intro j hj
          have : j = 0 ∨ j = 1 ∨ j = 2 ∨ j = 3 ∨ j = 4 ∨ j = 5 ∨ j = 6 ∨ j = 7 ∨ j = 8 ∨ j = 9 ∨ j = 10 ∨ j = 11 ∨ j = 12 ∨ j = 13 ∨ j = 14 ∨ j = 15 := by omega
          rcases this with rfl | rfl | rfl | rfl | rfl | rfl | rfl | rfl | rfl | rfl | rfl | rfl | rfl | rfl | rfl | rfl <;> rfl
        rw [this j hj'] at hj
        exact hj
  · obtain ⟨g, t, cs, fuel, p, hg, ht, hv, hr⟩ := m2
    obtain rfl : g = 2 := Option.some.inj ((show Tryz.prog.globalNamed "unicode/utf8.acceptRanges" = some 2 by kernel_rfl).symm.trans hg) |>.symm
    obtain rfl : t = 264 := Option.some.inj ((show (Tryz.prog.globals[2]?).map (·.type) = some 264 by kernel_rfl).symm.trans ht) |>.symm
    have hcs : cs = cs2 := by
      unfold World.var? at hv
      rw [hg] at hv
      simp only [Option.bind_some, k2] at hv
      exact (Option.some.inj hv).symm
    subst hcs
    refine ⟨cs, (0, 0), k2, ?_⟩
    have hlen : cs.toList.length = 32 := by
      cases fuel with
      | zero => simp [DataW.trod] at hr
      | succ fuel =>
        simp only [DataW.trod, Tryz.underlying264] at hr
        split at hr
        · rename_i hl
          rw [hl]
          exact (show Tryz.prog.cellsOf 264 = 32 by kernel_rfl)
        · cases hr
    have key := pairs_list accL cs.toList hlen fun i p hi => by
      have hi16 : i < 16 := (List.getElem?_eq_some_iff.1 hi).1
      obtain ⟨fuel', d, q, hd, hq⟩ := Lib.array_elem Tryz.underlying264 hr i hi16
      have hd2 : d = .agg ((accI.getD i []).map fun z => .lit (.int .u8 z)) ∧ p = (.int .u8 ((accI.getD i []).getD 0 0), .int .u8 ((accI.getD i []).getD 1 0)) ∧ (accI.getD i []).map (fun z => Value.int .u8 z) = [p.1, p.2] := by
        have : i = 0 ∨ i = 1 ∨ i = 2 ∨ i = 3 ∨ i = 4 ∨ i = 5 ∨ i = 6 ∨ i = 7 ∨ i = 8 ∨ i = 9 ∨ i = 10 ∨ i = 11 ∨ i = 12 ∨ i = 13 ∨ i = 14 ∨ i = 15 := by omega
        rcases this with rfl | rfl | rfl | rfl | rfl | rfl | rfl | rfl | rfl | rfl | rfl | rfl | rfl | rfl | rfl | rfl <;> (cases hi; cases hd; exact ⟨rfl, rfl, rfl⟩)
      obtain ⟨rfl, _, hp⟩ := hd2
      have hc : Tryz.prog.cellsOf 263 = 2 := by kernel_rfl
      rw [hc] at hq
      have := Lib.ints_of_struct (k := .u8) (zs := accI.getD i []) Tryz.underlying263 (fun i f hf => by
        have : i = 0 ∨ i = 1 := by
          have := (Array.getElem?_eq_some_iff.1 hf).1
          simp at this
          omega
        rcases this with rfl | rfl <;> (cases hf; exact ⟨Tryz.underlying5, rfl, by kernel_rfl⟩)) (by kernel_rfl) hq
      rw [this, hp]
    rw [key]
    rfl
end Go.Ab
namespace Go.Ab
open Go.Proofs Go.Proofs.YtckgcmgnpblnaaaGreatDoor Go.RowKit Go.ChangeShapes Go.WideShapes Go.ChangeAt
/-- an argument, as the abstract heap tells it under the number i -/
structure ArgObj (W : World) (i : Nat) (v v' : Value) (l : List Int) (o : AObj) (lo : Loc) : Prop where
  or : ∀ ρ, OR ρ W lo o
  nw : o.wr = false
  blk : lo.blk < W.heap.size
  vr : ∀ ρ : Ren, ρ i = some lo → VR ρ v' v
  ints : ∀ h : Hp, i < h.next → h.get i = some o → IsInts h v' l
theorem U_big : (18446744073709551616 : Nat) = U := by unfold U; rfl
set_option maxRecDepth 100000 in
theorem argInts {H : Type} {enc : TypeId × Value → H} {W : World} {fuel : Nat} {v : Value} {x : DataW H × List MemPlace} {base b0 : Nat} (hs : 0 < W.heap.size) (ht : DataW.trod enc Tryz.prog W base (fun _ => true) true fuel 22 [v] = some x) (hok : Cell.okWide Tryz.prog W .any b0 22 v) (i : Nat) :
    ∃ v' l o lo, ArgObj W i v v' l o lo ∧ l.length + 1 ≤ Rows.uptoBulk x.1 := by
  rcases open_ints Tryz.underlying22 Tryz.underlying3 (by kernel_rfl) ht with ⟨e1, rfl⟩ | ⟨a, len, cap, zs, e1, _, e3, e4, e5, rfl, e7, e8⟩
  · obtain rfl : v = .slice none 0 0 := by simpa using e1
    exact ⟨.slice none 0 0, [], .dead, ⟨0, 0, 0⟩, ⟨fun _ => trivial, rfl, hs, fun _ _ => rfl, fun h _ _ => IsSl.ints ⟨rfl, .inl ⟨rfl, rfl⟩⟩⟩, Nat.le_refl 1⟩
  · obtain rfl : v = .slice (some a) len cap := by simpa using e1
    simp only [if_true] at e5
    have hbulk : ∀ l : List Int, Rows.uptoBulkAll (lits .i64 l : List (DataW H)) = l.length := by
      intro l
      induction l with
      | nil => rfl
      | cons z l ih =>
        have : Rows.uptoBulkAll (lits .i64 (z :: l) : List (DataW H)) = 1 + Rows.uptoBulkAll (lits .i64 l : List (DataW H)) := rfl
        rw [this, ih, List.length_cons]
        omega
    have hb : (zs.take len).length + 1 ≤ Rows.uptoBulk (DataW.slice (lits .i64 (zs.take len)) (lits .i64 (zs.drop len)) : DataW H) := by
      have : Rows.uptoBulk (DataW.slice (lits .i64 (zs.take len)) (lits .i64 (zs.drop len)) : DataW H) = Rows.uptoBulkAll (lits .i64 (zs.take len) : List (DataW H)) + Rows.uptoBulkAll (lits .i64 (zs.drop len) : List (DataW H)) + 1 := rfl
      rw [this, hbulk, hbulk]
      omega
    unfold Cell.okWide at hok
    rw [Tryz.underlying22] at hok
    simp only at hok
    unfold Cell.ok at hok
    rw [Tryz.underlying22] at hok
    simp only at hok
    obtain ⟨_, hcap, _, hspot, row, cells, hsh, _⟩ := hok
    obtain ⟨cc, fr, hblk⟩ : ∃ cc fr, W.heap[a.block]? = some (.cells cc row fr) := by
      unfold World.shape? at hsh
      split at hsh
      · rename_i c e fr hc; cases hsh; exact ⟨c, fr, hc⟩
      · cases hsh
    have hlt : a.block < W.heap.size := (Array.getElem?_eq_some_iff.1 hblk).1
    have hcapU : cap < U := by
      have : IntKind.i64.max = 9223372036854775807 := rfl
      rw [this] at hcap
      rw [← U_big]
      omega
    obtain ⟨b, off, sp⟩ := a
    simp only at hspot hblk hlt
    subst hspot
    by_cases h0 : cap = 0
    · subst h0
      have hl0 : len = 0 := by omega
      subst hl0
      exact ⟨.slice (some ⟨i, 0, none⟩) 0 0, [], .cells [] true row, ⟨b, 0, 0⟩, ⟨fun ρ => ⟨cc, fr, hblk, by simp, by simp, fun h => (by cases h), fun j v hj => by simp at hj⟩, rfl, hlt,
        fun ρ hρ => ⟨⟨b, 0, 0⟩, hρ, rfl, .inr ⟨rfl, .inr rfl, off, rfl⟩⟩, fun h hi hg => IsSl.ints ⟨rfl, .inr ⟨i, 0, 0, [], true, row, rfl, hi, hg, .inl rfl, .inr ⟨hcapU, Nat.le_refl _⟩⟩⟩⟩, by
          have := hb
          simp only [List.length_nil]
          omega⟩
    · have hcell : ∀ j, j < cap → cc[off + j]? = some (.int .i64 (zs.getD j 0)) := fun j hj => by
        have := e7 j (by omega)
        rw [add_mk, sub_cell hblk] at this
        exact this
      have hsz : off + cap ≤ cc.size := by
        have := (Array.getElem?_eq_some_iff.1 (hcell (cap - 1) (by omega))).1
        omega
      refine ⟨.slice (some ⟨i, 0, none⟩) len cap, zs.take len, .cells (Ab.ints zs) true row, ⟨b, off, cap⟩, ⟨fun ρ => ⟨cc, fr, hblk, by simp [e5], hsz, fun h => (by cases h), fun j v hj => ?_⟩, rfl, hlt, fun ρ hρ => ⟨⟨b, off, cap⟩, hρ, rfl, .inl ⟨cap, rfl, e3, fun hU => by omega, fun _ => rfl⟩⟩, fun h hi hg => ?_⟩, hb⟩
      · have hj' : j < cap := by
          have := (List.getElem?_eq_some_iff.1 hj).1
          simp at this
          omega
        refine ⟨_, hcell j hj', ?_⟩
        rw [ints_get?] at hj
        have hz : zs[j]? = some (zs.getD j 0) := by
          rw [List.getD_eq_getElem?_getD, List.getElem?_eq_getElem (by omega)]
          rfl
        rw [hz] at hj
        cases hj
        rfl
      · have hl : (zs.take len).length = len := by rw [List.length_take]; omega
        refine IsSl.ints ?_
        rw [hl]
        refine ⟨by rw [ints_length, hl]; omega, .inr ⟨i, 0, cap, Ab.ints zs, true, row, rfl, hi, hg, .inr ?_, .inr ⟨hcapU, e3⟩⟩⟩
        rw [List.drop_zero, Nat.mul_one]
        simp [Ab.ints, List.map_take]
end Go.Ab
namespace Go.Ab
open Go.Proofs Go.Proofs.YtckgcmgnpblnaaaGreatDoor Go.RowKit Go.ChangeShapes Go.WideShapes Go.ChangeAt
/-- the abstract heap in which the law is called: the globals, the row of mark.count, two objects for the arguments -/
def topG (e : Nat) (o5 o6 : AObj) : Nat → Option AObj
  | 0 => some (.cells c0 true 22)
  | 1 => some .dead
  | 2 => some (.cells c2 true 264)
  | 3 => some .dead
  | 4 => some (.cells c4 true e)
  | 5 => some o5
  | 6 => some o6
  | _ => none
def topH (e : Nat) (o5 o6 : AObj) : Hp := ⟨topG e o5 o6, 7⟩
def topR (l4 l5 l6 : Loc) : Ren := fun i => match i with
  | 0 => some ⟨0, 0, 1⟩
  | 1 => some ⟨1, 0, 0⟩
  | 2 => some ⟨2, 0, 32⟩
  | 3 => some ⟨3, 0, 0⟩
  | 4 => some l4
  | 5 => some l5
  | 6 => some l6
  | _ => none
theorem u8L_int : ∀ (l : List Int) (j : Nat) (v : Value), (u8L l)[j]? = some v → ∃ n, v = .int .u8 n
  | [], j, v, h => by simp [u8L] at h
  | n :: l, 0, v, h => by simp only [u8L, List.getElem?_cons_zero, Option.some.injEq] at h; exact ⟨n, h.symm⟩
  | n :: l, j + 1, v, h => u8L_int l j v (by simpa [u8L] using h)
theorem i64L_int : ∀ (l : List Int) (j : Nat) (v : Value), (i64L l)[j]? = some v → ∃ n, v = .int .i64 n
  | [], j, v, h => by simp [i64L] at h
  | n :: l, 0, v, h => by simp only [i64L, List.getElem?_cons_zero, Option.some.injEq] at h; exact ⟨n, h.symm⟩
  | n :: l, j + 1, v, h => i64L_int l j v (by simpa [i64L] using h)
theorem topH_holds (e : Nat) (o5 o6 : AObj) : Holds (topH e o5 o6) (hpOf (hp0 e) 5) := fun i o hi => by
  have hi : (hp0 e).get i = some o := hi
  rw [hp0_get] at hi
  split at hi
  · rename_i q; subst q; exact ⟨by simp [topH, topG], .inl (by cases hi; rfl)⟩
  split at hi
  · rename_i q; subst q; exact ⟨by simp [topH, topG], .inl (by cases hi; rfl)⟩
  split at hi
  · rename_i q; subst q; cases hi; exact ⟨by simp [topH, topG], .inr rfl⟩
  split at hi
  · rename_i q; subst q; cases hi; exact ⟨by simp [topH, topG], .inr rfl⟩
  split at hi
  · rename_i q; subst q; cases hi; exact ⟨by simp [topH, topG], .inr rfl⟩
  · cases hi
theorem topHR {W : World} (L : Laid W) : ∃ e l4, ∀ {v5 v6 v5' v6' : Value} {m5 m6 : List Int} {o5 o6 : AObj} {l5 l6 : Loc}, ArgObj W 5 v5 v5' m5 o5 l5 → ArgObj W 6 v6 v6' m6 o6 l6 → HR Tryz.prog (topR l4 l5 l6) (topH e o5 o6) W := by
  obtain ⟨⟨⟨b, off, sp⟩, fr0, h0, hsp, hc⟩, ⟨cc2, fr2, h2, hc2⟩, hsz⟩ := L
  simp only at hsp
  subst hsp
  obtain ⟨cc4, e, fr4, h4⟩ : ∃ cc e fr, W.heap[b]? = some (.cells cc e fr) := by
    have := hc 0 (.int .i64 0) rfl
    unfold World.cell? at this
    cases hh : W.heap[b]? with
    | none => simp [Addr.add, hh] at this
    | some o =>
      cases o with
      | cells c e fr => exact ⟨c, e, fr, rfl⟩
      | _ => simp [Addr.add, hh] at this
  have hc4 : ∀ (j : Nat) (v : Value), c4[j]? = some v → cc4[off + j]? = some v := fun j v hj => by
    have := hc j v hj
    rw [add_mk, sub_cell h4] at this
    exact this
  have hl4 : off + 16 ≤ cc4.size := by
    have := (Array.getElem?_eq_some_iff.1 (hc4 15 (.int .i64 4) rfl)).1
    omega
  refine ⟨e, ⟨b, off, 16⟩, fun {v5 v6 v5' v6' m5 m6 o5 o6 l5 l6} A5 A6 => ?_⟩
  have hb : b < W.heap.size := (Array.getElem?_eq_some_iff.1 h4).1
  refine ⟨fun i hi => ?_, fun i l hi => ?_, fun i o hi => ?_, fun i j o o' l l' h1 _ _ hw _ _ _ => ?_, fun g hg => ?_⟩
  · show i < 7
    rcases i with _ | _ | _ | _ | _ | _ | _ | i <;> first | omega | exact absurd rfl hi
  · rcases i with _ | _ | _ | _ | _ | _ | _ | i <;> first | (cases hi; exact ⟨by simp [topH, topG], by simp only; omega⟩) | (cases hi; exact ⟨by simp [topH, topG], A5.blk⟩) | (cases hi; exact ⟨by simp [topH, topG], A6.blk⟩) | cases hi
  · rcases i with _ | _ | _ | _ | _ | _ | _ | i
    · cases hi
      refine ⟨_, rfl, #[.slice (some ⟨b, off, none⟩) 16 16], fr0, h0, by simp [c0], by simp, fun h => (by cases h), fun j v hj => ?_⟩
      cases j with
      | zero =>
        simp only [c0, List.getElem?_cons_zero, Option.some.injEq] at hj
        subst hj
        exact ⟨_, rfl, ⟨b, off, 16⟩, rfl, rfl, .inl ⟨16, rfl, by omega, fun hU => by rw [← U_big] at hU; omega, fun _ => rfl⟩⟩
      | succ j => simp [c0] at hj
    · cases hi; exact ⟨_, rfl, trivial⟩
    · cases hi
      refine ⟨_, rfl, cc2, fr2, h2, ?_, ?_, fun h => (by cases h), fun j v hj => ?_⟩
      · show c2.length ≤ 32; decide
      · show 0 + 32 ≤ cc2.size
        have : cc2.toList.length = 32 := by rw [hc2]; rfl
        simp at this
        omega
      · obtain ⟨n, rfl⟩ := u8L_int _ j v hj
        rw [← hc2] at hj
        simp only [Array.getElem?_toList] at hj
        exact ⟨_, by simpa using hj, rfl⟩
    · cases hi; exact ⟨_, rfl, trivial⟩
    · cases hi
      refine ⟨_, rfl, cc4, fr4, h4, ?_, hl4, fun h => (by cases h), fun j v hj => ⟨v, hc4 j v hj, ?_⟩⟩
      · show c4.length ≤ 16; decide
      · obtain ⟨n, rfl⟩ := i64L_int _ j v hj
        rfl
    · cases hi; exact ⟨_, rfl, A5.or _⟩
    · cases hi; exact ⟨_, rfl, A6.or _⟩
    · cases hi
  · rcases i with _ | _ | _ | _ | _ | _ | _ | i <;> first | (cases h1; cases hw; done) | (cases h1; rw [A5.nw] at hw; cases hw; done) | (cases h1; rw [A6.nw] at hw; cases hw; done) | cases h1
  · have hg : g < 4 := hg
    rcases g with _ | _ | _ | _ | g <;> first | exact ⟨_, rfl, rfl, rfl⟩ | omega
end Go.Ab
namespace Go.Ab
open Go.Proofs Go.Proofs.YtckgcmgnpblnaaaGreatDoor Go.RowKit Go.ChangeShapes Go.WideShapes Go.ChangeAt
set_option maxRecDepth 100000 in
/-- the law, from whatever world its row lets in -/
theorem contract (H : Type) (enc : TypeId × Value → H) (W : World) (base : Nat) (args : Array Value) (ds gs : List (DataW H)) (before : List MemPlace)
    (hval : ∀ (j : Nat) t v, Tryz.f3.params[j]? = some t → args[j]? = some v → Value.okWide Tryz.prog W .any base t v)
    (hW : DataW.Whole enc Tryz.prog Tryz.f3.params.toList Rows.topSharedTransferSpec.vars false W args.toList ds gs before) (hb : Rows.uptoSmall H (ds ++ gs) = true)
    (hL : laidMetH Tryz.prog Rows.topSharedTransferUptoRow.laid W) (hS : W.ShapedOpen Tryz.prog) :
    Calls Tryz.prog 3 args W fun e W' => ∃ v, e = .returned v ∧ Rows.topSharedTransferSpec.post enc Tryz.prog Tryz.f3 false true false false W args v W' := by
  have L := laid_of hS hL
  obtain ⟨p, q, hA, hV, rfl, hfz, hnd⟩ := id hW
  have hV0 : DataW.TrodVars enc Tryz.prog W (fun _ => true) [] gs q := hV
  obtain ⟨rfl, rfl⟩ := trodVars_none hV0
  rw [Tryz.params3] at hA hval
  obtain ⟨v0, vs0, d0, ds0, p0, q0, hargs, rfl, rfl, h0, r0⟩ := trodAll_cons hA
  obtain ⟨rfl, rfl, rfl⟩ := trodAll_nil r0
  obtain rfl : args = #[v0] := by cases args; simp_all
  have hok := hval 0 26 v0 rfl rfl
  unfold Value.okWide at hok
  rw [Tryz.underlying26] at hok
  obtain ⟨cs, rfl, hcs, ts, hts, _, hcell⟩ := hok
  have hts2 : Tryz.prog.cellTypes Tryz.prog.depth 26 = some [22, 3, 3, 22, 3, 3] := by kernel_rfl
  rw [hts2] at hts
  obtain rfl := Option.some.inj hts
  have hc26 : Tryz.prog.cellsOf 26 = 6 := by kernel_rfl
  rw [hc26] at hcs
  obtain ⟨b0, b1, b2, b3, b4, b5, rfl⟩ : ∃ b0 b1 b2 b3 b4 b5, cs = #[b0, b1, b2, b3, b4, b5] := by
    obtain ⟨l⟩ := cs
    match l, hcs with
    | [b0, b1, b2, b3, b4, b5], _ => exact ⟨b0, b1, b2, b3, b4, b5, rfl⟩
  have ok0 : Cell.okWide Tryz.prog W .any base 22 b0 := by
    obtain ⟨u, hu, h⟩ := hcell 0 b0 rfl
    cases hu
    exact h
  have ok3 : Cell.okWide Tryz.prog W .any base 22 b3 := by
    obtain ⟨u, hu, h⟩ := hcell 3 b3 rfl
    cases hu
    exact h
  obtain ⟨fuel, hr⟩ := h0
  obtain ⟨xs, n, _, hx, _, hlen, hf⟩ := DataW.trod_struct Tryz.underlying26 hr
  obtain ⟨x0, x1, x2, x3, x4, rfl⟩ : ∃ x0 x1 x2 x3 x4, xs = [x0, x1, x2, x3, x4] := by
    match xs, hlen with
    | [x0, x1, x2, x3, x4], _ => exact ⟨x0, x1, x2, x3, x4, rfl⟩
  have c22 : Tryz.prog.cellsOf 22 = 1 := by kernel_rfl
  have c3 : Tryz.prog.cellsOf 3 = 1 := by kernel_rfl
  have c24 : Tryz.prog.cellsOf 24 = 2 := by kernel_rfl
  have f0 : DataW.trod enc Tryz.prog W 0 (fun _ => true) true n 22 (List.take (Tryz.prog.cellsOf 22) (List.drop 0 [b0, b1, b2, b3, b4, b5])) = some x0 := hf 0 _ rfl
  rw [c22] at f0
  have f0 : DataW.trod enc Tryz.prog W 0 (fun _ => true) true n 22 [b0] = some x0 := f0
  have f1 : DataW.trod enc Tryz.prog W 0 (fun _ => true) true n 3 (List.take (Tryz.prog.cellsOf 3) (List.drop 1 [b0, b1, b2, b3, b4, b5])) = some x1 := hf 1 _ rfl
  rw [c3] at f1
  have f1 : DataW.trod enc Tryz.prog W 0 (fun _ => true) true n 3 [b1] = some x1 := f1
  have f2 : DataW.trod enc Tryz.prog W 0 (fun _ => true) true n 3 (List.take (Tryz.prog.cellsOf 3) (List.drop 2 [b0, b1, b2, b3, b4, b5])) = some x2 := hf 2 _ rfl
  rw [c3] at f2
  have f2 : DataW.trod enc Tryz.prog W 0 (fun _ => true) true n 3 [b2] = some x2 := f2
  have f3 : DataW.trod enc Tryz.prog W 0 (fun _ => true) true n 22 (List.take (Tryz.prog.cellsOf 22) (List.drop 3 [b0, b1, b2, b3, b4, b5])) = some x3 := hf 3 _ rfl
  rw [c22] at f3
  have f3 : DataW.trod enc Tryz.prog W 0 (fun _ => true) true n 22 [b3] = some x3 := f3
  have f4 : DataW.trod enc Tryz.prog W 0 (fun _ => true) true n 24 (List.take (Tryz.prog.cellsOf 24) (List.drop 4 [b0, b1, b2, b3, b4, b5])) = some x4 := hf 4 _ rfl
  rw [c24] at f4
  have f4 : DataW.trod enc Tryz.prog W 0 (fun _ => true) true n 24 [b4, b5] = some x4 := f4
  obtain ⟨n1, e1, hx1, _⟩ := DataW.trod_int Tryz.underlying3 f1
  obtain ⟨n2, e2, hx2, _⟩ := DataW.trod_int Tryz.underlying3 f2
  obtain ⟨ys, m, _, hx4, _, hlen4, hf4⟩ := DataW.trod_struct Tryz.underlying24 f4
  obtain ⟨y0, y1, rfl⟩ : ∃ y0 y1, ys = [y0, y1] := by
    match ys, hlen4 with
    | [y0, y1], _ => exact ⟨y0, y1, rfl⟩
  have g0 : DataW.trod enc Tryz.prog W 0 (fun _ => true) true m 3 (List.take (Tryz.prog.cellsOf 3) (List.drop 0 [b4, b5])) = some y0 := hf4 0 _ rfl
  rw [c3] at g0
  have g0 : DataW.trod enc Tryz.prog W 0 (fun _ => true) true m 3 [b4] = some y0 := g0
  have g1 : DataW.trod enc Tryz.prog W 0 (fun _ => true) true m 3 (List.take (Tryz.prog.cellsOf 3) (List.drop 1 [b4, b5])) = some y1 := hf4 1 _ rfl
  rw [c3] at g1
  have g1 : DataW.trod enc Tryz.prog W 0 (fun _ => true) true m 3 [b5] = some y1 := g1
  obtain ⟨n4, e4, _, _⟩ := DataW.trod_int Tryz.underlying3 g0
  obtain ⟨n5, e5, _, _⟩ := DataW.trod_int Tryz.underlying3 g1
  obtain rfl : b1 = .int .i64 n1 := by simpa using e1
  obtain rfl : b2 = .int .i64 n2 := by simpa using e2
  obtain rfl : b4 = .int .i64 n4 := by simpa using e4
  obtain rfl : b5 = .int .i64 n5 := by simpa using e5
  have hpos : 0 < W.heap.size := by have := L.sz; omega
  obtain ⟨v5, ch, o5, l5, A5, u5⟩ := argInts hpos f0 ok0 5
  obtain ⟨v6, sp, o6, l6, A6, u6⟩ := argInts hpos f3 ok3 6
  have hd0 : d0 = .agg [x0.1, x1.1, x2.1, x3.1, x4.1] := congrArg Prod.fst hx
  have hx1' : Rows.uptoBulk x1.1 = 1 := by rw [hx1]; rfl
  have hx2' : Rows.uptoBulk x2.1 = 1 := by rw [hx2]; rfl
  have hx4' : 1 ≤ Rows.uptoBulk x4.1 := by
    have : x4.1 = .agg [y0.1, y1.1] := congrArg Prod.fst hx4
    rw [this]
    show 1 ≤ Rows.uptoBulkAll [y0.1, y1.1] + 1
    omega
  have hbk : Rows.uptoBulkAll [d0] ≤ 1048576 := of_decide_eq_true hb
  have hsum : Rows.uptoBulkAll [d0] = Rows.uptoBulk x0.1 + (Rows.uptoBulk x1.1 + (Rows.uptoBulk x2.1 + (Rows.uptoBulk x3.1 + (Rows.uptoBulk x4.1 + 0)))) + 1 + 0 := by rw [hd0]; rfl
  have hl : ch.length + sp.length ≤ 1048570 := by omega
  obtain ⟨e, l4, hHR⟩ := topHR L
  have HRW := hHR A5 A6
  have i5 := A5.ints (topH e o5 o6) (by show 5 < 7; omega) rfl
  have i6 := A6.ints (topH e o5 o6) (by show 6 < 7; omega) rfl
  have AW : ∀ h', Ext (topH e o5 o6) h' → ACalls Tryz.prog 33 [] (fun e _ => e = .ret (.bool true)) h' := fun h' x => awake (Holds.ext HRW.lt (topH_holds e o5 o6) x)
  have key := f3s (n := n1) (st := n2) (p1 := n4) (p2 := n5) i5 i6 hl AW (topR l4 l5 l6) W #[.agg #[b0, .int .i64 n1, .int .i64 n2, b3, .int .i64 n4, .int .i64 n5]] HRW
    ⟨_, _, rfl, ⟨_, rfl, ⟨_, _, rfl, A5.vr _ rfl, _, _, rfl, rfl, _, _, rfl, rfl, _, _, rfl, A6.vr _ rfl, _, _, rfl, rfl, _, _, rfl, rfl, rfl⟩⟩, rfl⟩
  refine key.mono ?_
  rintro en W' ⟨e', ρ', h', k1, k2, k3, rfl⟩
  obtain ⟨c, rfl, k5⟩ := k1
  have k5 : c = .bool true := k5
  subst k5
  refine ⟨_, rfl, law_post Tryz.params3 (by decide +kernel) (by rfl) rfl (fun d => rfl) hW k3.os k3.output fun b hb => k3.block b hb ?_⟩
  rintro ⟨i, o, l, q1, q2, _, _⟩
  rcases i with _ | _ | _ | _ | _ | _ | _ | i <;> first | (cases q1; cases q2; done) | (cases q1; rw [A5.nw] at q2; cases q2; done) | (cases q1; rw [A6.nw] at q2; cases q2; done) | cases q1
end Go.Ab
