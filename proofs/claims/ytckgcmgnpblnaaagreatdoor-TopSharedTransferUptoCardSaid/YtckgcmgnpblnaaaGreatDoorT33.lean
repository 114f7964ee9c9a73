/- A part of the proof of a law over a given program: T10. -/
import Derived.Test.YtckgcmgnpblnaaaGreatDoorT32
set_option linter.unusedVariables false
set_option linter.unusedSimpArgs false
namespace Go.Ab
open Go.Proofs
set_option maxRecDepth 10000
theorem Cells.ov {h : Hp} {ip ic id : Nat} {a b co : Int} {cv : Value} (c : Cells h ip ic id a b cv co) (L : List (Nat × AObj)) (k : Nat) : Cells (ov h [] L k) ip ic id a b cv co where
  lp := by rw [ov_next]; have := c.lp; unfold loc; omega
  lc := by rw [ov_next]; have := c.lc; unfold loc; omega
  ld := by rw [ov_next]; have := c.ld; unfold loc; omega
  gp := by rw [ov_low0 c.lp]; exact c.gp
  gc := by rw [ov_low0 c.lc]; exact c.gc
  gd := by rw [ov_low0 c.ld]; exact c.gd
  kv := c.kv
  ha := c.ha
  hb := c.hb
theorem Cells.ovU {h : Hp} {ip ic id : Nat} {a b co co2 : Int} {cv cv2 : Value} (c : Cells h ip ic id a b cv co) (n1 : ic ≠ id) (L : List (Nat × AObj)) (k : Nat) (kv : cv2 = .slice none 0 0 ∨ ∃ x n c, cv2 = .slice (some x) n c) :
    Cells (Ab.ov h [(ic, .cells [cv2] false 22), (id, .cells [.int .i64 co2] false 3)] L k) ip ic id a b cv2 co2 where
  lp := by rw [ov_next]; have := c.lp; unfold loc; omega
  lc := by rw [ov_next]; have := c.lc; unfold loc; omega
  ld := by rw [ov_next]; have := c.ld; unfold loc; omega
  gp := by
    obtain ⟨_, n2, n3⟩ := c.ne
    rw [ov_low c.lp]
    simp only [lk]
    rw [if_neg (fun e => n2 e.symm), if_neg (fun e => n3 e.symm)]
    exact c.gp
  gc := by rw [ov_low c.lc]; simp only [lk, if_true]
  gd := by rw [ov_low c.ld]; simp only [lk]; rw [if_neg n1]; simp
  kv := kv
  ha := c.ha
  hb := c.hb
/-- a slice that doesn't lie in a block -/
def Off (v : Value) (i : Nat) : Prop := ∀ a n c, v = .slice (some a) n c → a.block ≠ i
theorem IsInts.ovU {h : Hp} {v : Value} {l : List Int} (hv : IsInts h v l) {U : List (Nat × AObj)} (hU : ∀ a n c, v = .slice (some a) n c → lk U a.block = none) (L : List (Nat × AObj)) (k : Nat) : IsInts (Ab.ov h U L k) v l := by
  obtain ⟨h0, h1 | ⟨i, o, c, ob, ro, e, h1, h2, h3, h4, h5⟩⟩ := hv.sl
  · exact IsSl.ints ⟨h0, .inl h1⟩
  · refine IsSl.ints ⟨h0, .inr ⟨i, o, c, ob, ro, e, h1, by rw [ov_next]; unfold loc; omega, ?_, h4, h5⟩⟩
    rw [ov_low h2, hU _ _ _ h1]
    exact h3
theorem ChOK.snoc {s : Sr} {l : List Int} (hl : ChOK s l) (x : Int) (hx : 0 ≤ x ∧ x ≤ 46) (h20 : l.length + 1 ≤ 20) : ChOK s (l ++ [x]) where
  pos := by simp
  len := by simp; omega
  b := fun j => by
    have := hl.b j
    simp only [List.getD_eq_getElem?_getD, List.getElem?_append] at this ⊢
    by_cases hj : j < l.length
    · rw [if_pos hj]; exact this
    · rw [if_neg hj]
      cases hjj : j - l.length with
      | zero => simp; omega
      | succ q => simp
theorem hasnil (x : Int) : has [] x = false := rfl
/-- of a chain that is not empty, its block -/
theorem IsInts.clip2 {h : Hp} {v : Value} {l : List Int} (hv : IsInts h v l) (hl : l.length < 18446744073709551616) (hne : l ≠ []) :
    ∃ i o c, v = .slice (some ⟨i, o, none⟩) l.length c ∧ clipV v l.length = .slice (some ⟨i, o, none⟩) l.length l.length ∧ i < h.next ∧ ∀ U L k, lk U i = none → ldN (Ab.ov h U L k).get ⟨i, o, none⟩ (l.length * 1) = some (Ab.ints l) := by
  have hU : l.length < U := by unfold U; omega
  have hb : ∀ d, bound d (some (.int .i64 (l.length : Int))) = some l.length := fun d => by rw [bound_int (by omega)]; simp
  rcases hv.told with ⟨_, h2⟩ | ⟨i, o, c, ob, ro, e, rfl, h2, h3, h4, h5⟩
  · exact absurd h2 hne
  · refine ⟨i, o, c, rfl, ?_, h2, fun U2 L k hu => ?_⟩
    · have e1 : sliceA (tiOf Tryz.prog) 22 (.slice (some ⟨i, o, none⟩) l.length c) none (some (.int .i64 l.length)) (some (.int .i64 l.length)) = some (.slice (some (bif Nat.beq l.length 0 then ⟨i, o, none⟩ else addO (0 * 1) ⟨i, o, none⟩)) l.length l.length) := by
        unfold sliceA
        rw [ty22]
        simp only [ty3, bound_none, hb, natOf_int (show (0 : Int) ≤ l.length by omega), Int.toNat_natCast, ble_true (Nat.zero_le _), ble_true (Nat.le_refl _), unk_low hU, Nat.sub_zero, Bool.not_false, Bool.and_true, Bool.true_and]
        have : Nat.ble l.length (bif unk c then l.length else c) = true := by
          rcases h5 with rfl | ⟨h5, h6⟩
          · rw [unk_U]; exact ble_true (Nat.le_refl _)
          · rw [unk_low h5]; exact ble_true h6
        rw [this]
        rfl
      have e3 : (bif Nat.beq l.length 0 then (⟨i, o, none⟩ : Addr) else addO (0 * 1) ⟨i, o, none⟩) = ⟨i, o, none⟩ := by cases Nat.beq l.length 0 <;> rfl
      rw [e3] at e1
      unfold clipV
      rw [e1]
      rfl
    · have := (h4.resolve_left hne) L k
      unfold ldN at this ⊢
      simp only [ov_low0 h2] at this
      simp only [ov_low h2, hu]
      exact this
theorem loc_off {h : Hp} {i k : Nat} (hi : i < h.next) : loc h k ≠ i := by unfold loc; omega
theorem FU_two {h : Hp} {R : Nat → Nat → Prop} {ic id : Nat} {U : List (Nat × AObj)} {j j' n c : Nat} {co : Int} (h1 : lk U ic = some (.cells [.slice (some ⟨loc h j, 0, none⟩) n c] false 22)) (h2 : lk U id = some (.cells [.int .i64 co] false 3)) (hr : R (loc h j') (loc h j)) :
    FU R U [(ic, .cells [.slice (some ⟨loc h j', 0, none⟩) n c] false 22), (id, .cells [.int .i64 co] false 3)] :=
  ⟨⟨_, h1, ⟨_, rfl, ⟨_, _, rfl, ⟨_, rfl, hr, rfl, rfl⟩, rfl⟩⟩⟩, ⟨_, h2, ⟨_, rfl, flatsFV rfl⟩⟩, trivial⟩
theorem FU2_two {ic id : Nat} {o1 o2 : AObj} (n1 : ic ≠ id) : ∀ {U : List (Nat × AObj)}, (∀ p ∈ U, p.1 = ic ∨ p.1 = id) → FU2 [(ic, o1), (id, o2)] U
  | [], _ => trivial
  | (i, o) :: U, hU => ⟨by
      rcases hU _ List.mem_cons_self with e | e
      · simp only at e; subst e; exact ⟨_, by simp only [lk, if_true]; rfl⟩
      · simp only at e; subst e; exact ⟨_, by simp only [lk, if_neg n1, if_true]; rfl⟩, FU2_two n1 fun p hp => hU p (List.mem_cons_of_mem _ hp)⟩
abbrev vsT (v fv : Value) (k : Nat) (last : Int) (h : Hp) (i : Nat) : Nat → Value := tl [(1, v), (2, .int .i64 ((k : Int) + 1)), (3, fv), (4, .pointer (some ⟨loc h 0, 0, none⟩)), (8, .int .i64 last), (9, .int .i64 (last + 1 + i))]
abbrev vsH (h : Hp) (n : Int) (ic id : Nat) : Option (List Int × Nat × Nat × Int) → Hp
  | none => ov h [] [(0, .cells [.int .i64 n, .slice none 0 0, .bool false] false 75)] 1
  | some (l, m, c, co) => ov h [(ic, .cells [.slice (some ⟨loc h 1, 0, none⟩) m c] false 22), (id, .cells [.int .i64 co] false 3)] [(1, .cells (ints l) false 3), (0, .cells [.int .i64 n, .slice none 0 0, .bool false] false 75)] 2
def vsI : Option (List Int × Nat × Nat × Int) → Prop
  | none => True
  | some (l, m, c, _) => m = l.length ∧ m ≤ 20 ∧ 0 < m ∧ CapOK c m 1
set_option maxHeartbeats 8000000 in
theorem visit_state (n : Int) (hn : 1 ≤ n ∧ n ≤ 46) (ip ic id : Nat) (a b : Int) : ∀ (k : Nat) (h : Hp) (v : Value) (l : List Int) (cv : Value) (co : Int), k ≤ 7 → l.length + k ≤ 20 → ChOK ⟨n, [], false⟩ l → IsInts h v l → Off v ic → Off v id → Cells h ip ic id a b cv co →
    ACalls Tryz.prog 50 [.agg #[.int .i64 n, .slice none 0 0, .bool false], v, .int .i64 k, .func (.func 51) #[] #[.pointer (some ⟨ip, 0, none⟩), .pointer (some ⟨ic, 0, none⟩), .pointer (some ⟨id, 0, none⟩)]] (fun e h' => e = .ret (.tuple #[]) ∧ Upd h ic id h') h := by
  intro k
  induction k with
  | zero =>
    intro h v l cv co hk hlk hl hv ho1 ho2 hcells
    have hlen := hv.len
    have hidx := hv.idx
    have hld := hv.ld
    have hpos := hl.pos
    have hln := hl.len
    have hb := hl.b (l.length - 1)
    have e1 : ((l.length : Int) - 1).toNat = l.length - 1 := by omega
    obtain ⟨n1, _, _⟩ := hcells.ne
    have hic := hcells.lc
    have hid := hcells.ld
    (refine ACalls.bodyB (fn := Tryz.f50) (ng := 4) (N := 89) (res := []) (by kernel_rfl) rfl rfl rfl (by kernel_rfl) (fun En hs => ?_); simp only [argsL, Nat.reduceAdd])
    have sv := hv.sv
    clear hs
    ((repeat refine CWp.seq ?_); refine CWp.region ?_)
    repeat (first | refine RL.w good ?_ | refine RL.k ?_)
    refine RL.nil ?_
    (try simp (disch := omega) only [qA])
    ((repeat refine CWp.seq ?_); refine CWp.region ?_)
    repeat (first | refine RL.w good ?_ | refine RL.k ?_)
    refine RL.nil ?_
    (try simp (disch := omega) only [qA])
    ((repeat refine CWp.seq ?_); refine CWp.block ?_)
    ((repeat refine CWp.seq ?_); refine CWp.region ?_)
    repeat (first | refine RL.w good ?_ | refine RL.k ?_)
    refine RL.nil ?_
    (try simp (disch := omega) only [qA])
    cases hq : (l.getD (l.length - 1) 0 == n)
    · ((repeat refine CWp.seq ?_); refine CWp.cnd good ?_ ?_)
      · intro hc; cases hc
      · intro _
        ((repeat refine CWp.seq ?_); refine CWp.drawI good (fun g => memN g []) [(0, true), (1, true), (2, true), (3, true), (4, true), (5, true), (6, true), (7, true), (8, true), (9, true), (10, true)] (by kernel_rfl) (fun _ _ _ q => q) ?_)
        repeat (first | refine PL.w ?_ | refine PL.wk ?_ | refine PL.ew ?_ | refine PL.ewk ?_)
        refine PL.nil ?_
        (try simp (disch := omega) only [qA])
        ((repeat refine CWp.seq ?_); refine CWp.cnd good ?_ ?_)
        · intro _
          (refine CWp.ret ?_; (try simp (disch := omega) only [qA]); refine rtB ?_; (try simp only [oneV]))
          exact EndB.plain En rfl ⟨rfl, .inl rfl⟩
        · intro hc; cases hc
    · ((repeat refine CWp.seq ?_); refine CWp.cnd good ?_ ?_)
      · intro _
        ((repeat refine CWp.seq ?_); refine CWp.region ?_)
        repeat (first | refine RL.w good ?_ | refine RL.k ?_)
        (refine' RL.c good ?_ ?_ ?_; rotate_left)
        · exact f51s _ _ _ (hv.ov _ _) (by omega) hpos hl.b ip ic id a b co cv (hcells.ov _ _)
        · rintro v' h' ⟨e, hup⟩
          cases e
          rcases hup with rfl | ⟨l3, n3, c3, co3, g1, g2, g3, g4, rfl⟩
          · refine RL.nil ?_
            (try simp (disch := omega) only [qA])
            (refine CWp.ret ?_; (try simp (disch := omega) only [qA]); refine rtB ?_; (try simp only [oneV]))
            exact EndB.plain En rfl ⟨rfl, .inl rfl⟩
          · rw [ov_ovU rfl (by simp only [List.mem_cons, List.not_mem_nil, or_false]; rintro p (rfl | rfl) <;> assumption), loc_ov]
            simp only [shift, List.cons_append, List.nil_append, List.append_nil, Nat.add_zero]
            refine RL.nil ?_
            (try simp (disch := omega) only [qA])
            (refine CWp.ret ?_; (try simp (disch := omega) only [qA]); refine rtB ?_; (try simp only [oneV]))
            exact Upd.endB (j := 1) (co := co3) En n1 hic hid g1 g2 g3 g4
        · rintro v' h' ⟨e, _⟩; cases e
      · intro hc; cases hc
  | succ k ih =>
    intro h v l cv co hk hlk hl hv ho1 ho2 hcells
    have hlen := hv.len
    have hidx := hv.idx
    have hld := hv.ld
    have hpos := hl.pos
    have hln := hl.len
    have hb := hl.b (l.length - 1)
    have e1 : ((l.length : Int) - 1).toNat = l.length - 1 := by omega
    have e2 : ((k : Int) + 1).toNat = k + 1 := by omega
    have hk0 : ((k : Int) + 1 == 0) = false := by simp; omega
    have hp1 : (2 : Int) ^ (k + 1) ≤ 128 := by
      have : (2 : Nat) ^ (k + 1) ≤ 2 ^ 7 := Nat.pow_le_pow_right (by omega) (by omega)
      have h2 : ((2 ^ (k + 1) : Nat) : Int) ≤ ((2 ^ 7 : Nat) : Int) := by exact_mod_cast this
      simpa using h2
    have hp0 : (0 : Int) ≤ 2 ^ (k + 1) := Int.pow_nonneg (by omega)
    have hp2 : l.getD (l.length - 1) 0 * 2 ^ (k + 1) ≤ 46 * 128 := Int.mul_le_mul hb.2 hp1 hp0 (by omega)
    have hp3 : 0 ≤ l.getD (l.length - 1) 0 * 2 ^ (k + 1) := Int.mul_nonneg hb.1 hp0
    obtain ⟨n1, _, _⟩ := hcells.ne
    have hic := hcells.lc
    have hid := hcells.ld
    replace ih := Hid.mk ih
    obtain ⟨ci, co1, cc1, hvb, hcv, hci, hcld⟩ := hv.clip2 (by omega) (List.length_pos_iff.1 hpos)
    have hcu0 := hcld []
    have hcu1 : ∀ o1 o2 L k, ldN (ov h [(ic, o1), (id, o2)] L k).get ⟨ci, co1, none⟩ (l.length * 1) = some (ints l) := fun o1 o2 L k => hcld _ L k (by simp only [lk]; rw [if_neg (fun q => ho1 _ _ _ hvb q.symm), if_neg (fun q => ho2 _ _ _ hvb q.symm)])
    have hcu2 : ∀ L k, ldN (ov h [] L k).get ⟨ci, co1, none⟩ (l.length * 1) = some (ints l) := fun L k => hcu0 L k rfl
    clear hcu0
    replace hcld := Hid.mk hcld
    replace hvb := Hid.mk hvb
    replace ho1 := ho1
    (refine ACalls.bodyB (fn := Tryz.f50) (ng := 4) (N := 89) (res := []) (by kernel_rfl) rfl rfl rfl (by kernel_rfl) (fun En hs => ?_); simp only [argsL, Nat.reduceAdd])
    have sv := hv.sv
    have sfv : SV h (.func (.func 51) #[] #[.pointer (some ⟨ip, 0, none⟩), .pointer (some ⟨ic, 0, none⟩), .pointer (some ⟨id, 0, none⟩)]) := hs _ (by simp)
    clear hs
    ((repeat refine CWp.seq ?_); refine CWp.region ?_)
    repeat (first | refine RL.w good ?_ | refine RL.k ?_)
    refine RL.nil ?_
    (try simp (disch := omega) only [qA])
    ((repeat refine CWp.seq ?_); refine CWp.region ?_)
    repeat (first | refine RL.w good ?_ | refine RL.k ?_)
    refine RL.nil ?_
    (try simp (disch := omega) only [qA])
    ((repeat refine CWp.seq ?_); refine CWp.block ?_)
    ((repeat refine CWp.seq ?_); refine CWp.region ?_)
    repeat (first | refine RL.w good ?_ | refine RL.k ?_)
    refine RL.nil ?_
    (try simp (disch := omega) only [qA])
    ((repeat refine CWp.seq ?_); refine CWp.cnd good ?_ ?_)
    · intro hc; cases hc
    · intro _
      ((repeat refine CWp.seq ?_); refine CWp.drawI good (fun g => memN g []) [(0, true), (1, true), (2, true), (3, true), (4, true), (5, true), (6, true), (7, true), (8, true), (9, true), (10, true)] (by kernel_rfl) (fun _ _ _ q => q) ?_)
      repeat (first | refine PL.w ?_ | refine PL.wk ?_ | refine PL.ew ?_ | refine PL.ewk ?_)
      refine PL.nil ?_
      (try simp (disch := omega) only [qA])
      ((repeat refine CWp.seq ?_); refine CWp.cnd good ?_ ?_)
      · intro hc
        (refine CWp.ret ?_; (try simp (disch := omega) only [qA]); refine rtB ?_; (try simp only [oneV]))
        exact EndB.plain En rfl ⟨rfl, .inl rfl⟩
      · intro hc
        replace hc := Hid.mk hc
        generalize hM : (bif decide (2 * l.getD (l.length - 1) 0 < n) then 2 * l.getD (l.length - 1) 0 else n) = M
        have hMn : M ≤ 46 := by
          cases hd : decide (2 * l.getD (l.length - 1) 0 < n) <;> rw [hd] at hM <;> simp only [cond_true, cond_false, decide_eq_true_eq] at hM hd <;> omega
        (refine CWp.skip ?_; (try simp (disch := omega) only [qA]))
        ((repeat refine CWp.seq ?_); refine CWp.region ?_)
        repeat (first | refine RL.w good ?_ | refine RL.k ?_)
        refine RL.nil ?_
        (try simp (disch := omega) only [qA])
        ((repeat refine CWp.seq ?_); refine CWp.block ?_)
        refine CWp.loop (fun (s : Nat × Option (List Int × Nat × Nat × Int)) => (vsT v (.func (.func 51) #[] #[.pointer (some ⟨ip, 0, none⟩), .pointer (some ⟨ic, 0, none⟩), .pointer (some ⟨id, 0, none⟩)]) k (l.getD (l.length - 1) 0) h s.1, vsH h n ic id s.2)) (fun s => (M - l.getD (l.length - 1) 0).toNat - s.1)
          (fun s => s.1 ≤ (M - l.getD (l.length - 1) 0).toNat ∧ vsI s.2) (0, none) ⟨by omega, trivial⟩ ?_ ?_
        · dsimp only [vsT, vsH]
          ((try dsimp only); apply fades_to En [(0, 0)]; (· (repeat (refine And.intro ?_ ?_; (· ((try simp only [push_cast, reduceIte, Nat.reduceEqDiff, *]) <;> first | exact rfl | exact SV.fv En (by assumption) | exact ⟨_, rfl, Rn_loc ⟨_, rfl⟩ rfl, rfl, rfl⟩ | exact ⟨_, _, rfl, rfl, rfl⟩ | exact congrArg (Value.int _) (by omega))))) <;> exact trivial); (· exact trivial); (· exact trivial); (· (repeat (refine And.intro ⟨by decide, _, _, rfl, rfl, ?_⟩ ?_; (· (first | exact ⟨_, rfl, flatsFV rfl⟩ | exact ⟨_, rfl, intsFVL _⟩ | (refine ⟨_, rfl, ?_⟩; (repeat (refine ⟨_, _, rfl, ?_, ?_⟩; (· (first | exact rfl | exact SV.fv En (by assumption) | exact ⟨_, rfl, Rn_loc ⟨_, rfl⟩ rfl, rfl, rfl⟩ | exact ⟨_, _, rfl, rfl, rfl⟩ | exact congrArg (Value.int _) (by omega))))); exact rfl))))) <;> exact trivial); (· exact rfl))
        rintro ⟨i, st⟩ ⟨h1, h2⟩
        dsimp only at h1 h2 ⊢
        rcases st with _ | ⟨l0, n0, c0, co0⟩
        · dsimp only [vsT, vsH]
          ((repeat refine CWp.seq ?_); refine CWp.region ?_)
          repeat (first | refine RL.w good ?_ | refine RL.k ?_)
          refine RL.nil ?_
          (try simp (disch := omega) only [qA])
          ((repeat refine CWp.seq ?_); refine CWp.cnd good ?_ ?_)
          · (intro hc; (try simp only [decide_eq_true_eq, decide_eq_false_iff_not, Bool.not_eq_true, Bool.not_eq_false, Int.not_lt, Int.not_le, bne_iff_ne, beq_iff_eq, ne_eq, Bool.not_eq_eq_eq_not, Bool.not_true, Bool.not_false] at hc))
            generalize hx : l.getD (l.length - 1) 0 + 1 + (i : Int) = x at *
            have hxb : 0 ≤ x ∧ x ≤ 46 := by omega
            have hx2 : l.getD (l.length - 1) 0 + 1 + ((i + 1 : Nat) : Int) = x + 1 := by omega
            have h3 : i + 1 ≤ (M - l.getD (l.length - 1) 0).toNat := by omega
            replace hx := Hid.mk hx
            replace hx2 := Hid.mk hx2
            (refine CWp.skip ?_; (try simp (disch := omega) only [qA]))
            ((repeat refine CWp.seq ?_); refine CWp.block ?_)
            ((repeat refine CWp.seq ?_); refine CWp.region ?_)
            repeat (first | refine RL.w good ?_ | refine RL.k ?_)
            (refine' RL.c good ?_ ?_ ?_; rotate_left)
            · exact f42s _ _ _ _ (hv.ov _ _) (by omega) (by omega) (fun j => by have := hl.b j; omega)
            · rintro v' h' ⟨e, rfl⟩
              cases e
              obtain ⟨wa, wb, wt, hw⟩ := wayV_form l x
              rw [hw]
              simp only [push_cast]
              repeat (first | refine RL.w good ?_ | refine RL.k ?_)
              refine RL.nil ?_
              (try simp (disch := omega) only [qA])
              cases wt
              · ((repeat refine CWp.seq ?_); refine CWp.region ?_)
                repeat (first | refine RL.w good ?_ | refine RL.k ?_)
                refine RL.nil ?_
                (try simp (disch := omega) only [qA])
                ((repeat refine CWp.seq ?_); refine CWp.cnd good ?_ ?_)
                · intro hc; cases hc
                · intro _
                  (refine CWp.skip ?_; (try simp (disch := omega) only [qA]))
                  ((repeat refine CWp.seq ?_); refine CWp.region ?_)
                  repeat (first | refine RL.w good ?_ | refine RL.k ?_)
                  refine RL.nil ?_
                  (try simp (disch := omega) only [qA])
                  refine ⟨(i + 1, none), ⟨by (try dsimp only); omega, trivial⟩, by (try dsimp only); omega, ?_⟩
                  dsimp only [vsT, vsH]
                  rw [hx2.out]
                  ((try dsimp only); apply fades_to En [(0, 0)]; (· (repeat (refine And.intro ?_ ?_; (· ((try simp only [push_cast, reduceIte, Nat.reduceEqDiff, *]) <;> first | exact rfl | exact SV.fv En (by assumption) | exact ⟨_, rfl, Rn_loc ⟨_, rfl⟩ rfl, rfl, rfl⟩ | exact ⟨_, _, rfl, rfl, rfl⟩ | exact congrArg (Value.int _) (by omega))))) <;> exact trivial); (· exact trivial); (· exact trivial); (· (repeat (refine And.intro ⟨by decide, _, _, rfl, rfl, ?_⟩ ?_; (· (first | exact ⟨_, rfl, flatsFV rfl⟩ | exact ⟨_, rfl, intsFVL _⟩ | (refine ⟨_, rfl, ?_⟩; (repeat (refine ⟨_, _, rfl, ?_, ?_⟩; (· (first | exact rfl | exact SV.fv En (by assumption) | exact ⟨_, rfl, Rn_loc ⟨_, rfl⟩ rfl, rfl, rfl⟩ | exact ⟨_, _, rfl, rfl, rfl⟩ | exact congrArg (Value.int _) (by omega))))); exact rfl))))) <;> exact trivial); (· exact rfl))
              · ((repeat refine CWp.seq ?_); refine CWp.region ?_)
                repeat (first | refine RL.w good ?_ | refine RL.k ?_)
                (refine' RL.c good ?_ ?_ ?_; rotate_left)
                · exact f65s _ _ _ _ (nilInts _) (by simp)
                · rintro v' h' ⟨e, rfl⟩
                  cases e
                  rw [hasnil]
                  simp only [push_cast]
                  repeat (first | refine RL.w good ?_ | refine RL.k ?_)
                  refine RL.nil ?_
                  (try simp (disch := omega) only [qA])
                  ((repeat refine CWp.seq ?_); refine CWp.cnd good ?_ ?_)
                  · intro _
                    ((repeat refine CWp.seq ?_); refine CWp.drawI good (fun g => memN g [69]) [(0, true), (1, true), (2, true), (3, true), (6, true), (7, true), (8, true), (4, false), (5, false), (9, false)] (by kernel_rfl) (fun _ _ _ q => q) ?_)
                    repeat (first | refine PL.w ?_ | refine PL.wk ?_ | refine PL.ew ?_ | refine PL.ewk ?_)
                    (apply PL.flcall; (· (first | exact rfl | (simp only [push_cast, reduceIte, Nat.reduceEqDiff, *]; done) | (simp only [push_cast, reduceIte, Nat.reduceEqDiff, *]; exact rfl))); (· (exact rfl)); (· (exact rfl)); (· (simp (disch := omega) only [push_cast, reduceIte, Nat.reduceEqDiff, beq_self_eq_true, bne_self_eq_false, Int.reduceBEq, Int.reduceBNe, Int.reduceLT, Int.reduceLE, Nat.reduceAdd, Nat.reduceMul, Nat.reduceSub, Int.reduceToNat, Nat.reducePow, Int.reducePow, *] <;> exact rfl)); (· (exact en (by kernel_rfl))); (· (simp (disch := omega) only [push_cast, reduceIte, Nat.reduceEqDiff, beq_self_eq_true, bne_self_eq_false, Int.reduceBEq, Int.reduceBNe, Int.reduceLT, Int.reduceLE, Nat.reduceAdd, Nat.reduceMul, Nat.reduceSub, Int.reduceToNat, Nat.reducePow, Int.reducePow, *] <;> exact rfl)))
                    · exact f69s _ _ _ (hv.ov _ _) (by omega)
                    · simp only [push_cast] <;> exact rfl <;> exact rfl
                    repeat (first | refine PL.w ?_ | refine PL.wk ?_ | refine PL.ew ?_ | refine PL.ewk ?_)
                    (apply PL.ef; (· (first | exact rfl | (simp only [push_cast, reduceIte, Nat.reduceEqDiff, *]; done) | (simp only [push_cast, reduceIte, Nat.reduceEqDiff, *]; exact rfl))); (· (simp (disch := omega) only [push_cast, reduceIte, Nat.reduceEqDiff, beq_self_eq_true, bne_self_eq_false, Int.reduceBEq, Int.reduceBNe, Int.reduceLT, Int.reduceLE, Nat.reduceAdd, Nat.reduceMul, Nat.reduceSub, Int.reduceToNat, Nat.reducePow, Int.reducePow, *] <;> exact rfl)); (· (simp only [push_cast] <;> exact rfl)); (· (simp (disch := omega) only [push_cast, reduceIte, Nat.reduceEqDiff, Nat.reduceAdd] <;> exact rfl)))
                    · (apply ReF.fl; (· (apply Float.call; (· (exact rfl)); (· (exact rfl)); (· (simp (disch := omega) only [push_cast, reduceIte, Nat.reduceEqDiff, beq_self_eq_true, bne_self_eq_false, Int.reduceBEq, Int.reduceBNe, Int.reduceLT, Int.reduceLE, Nat.reduceAdd, Nat.reduceMul, Nat.reduceSub, Int.reduceToNat, Nat.reducePow, Int.reducePow, *] <;> exact rfl)); (· (exact en (by kernel_rfl))); (· (simp (disch := omega) only [push_cast, reduceIte, Nat.reduceEqDiff, beq_self_eq_true, bne_self_eq_false, Int.reduceBEq, Int.reduceBNe, Int.reduceLT, Int.reduceLE, Nat.reduceAdd, Nat.reduceMul, Nat.reduceSub, Int.reduceToNat, Nat.reducePow, Int.reducePow, *] <;> exact rfl)); exact f69s _ _ _ (hv.ov _ _) (by omega))))
                      (apply ReF.op; (· (simp (disch := omega) only [push_cast, reduceIte, Nat.reduceEqDiff, beq_self_eq_true, bne_self_eq_false, Int.reduceBEq, Int.reduceBNe, Int.reduceLT, Int.reduceLE, Nat.reduceAdd, Nat.reduceMul, Nat.reduceSub, Int.reduceToNat, Nat.reducePow, Int.reducePow, *] <;> exact rfl)))
                      exact ReF.nil
                    repeat (first | refine PL.w ?_ | refine PL.wk ?_ | refine PL.ew ?_ | refine PL.ewk ?_)
                    (apply PL.efcall; (· (first | exact rfl | (simp only [push_cast, reduceIte, Nat.reduceEqDiff, *]; done) | (simp only [push_cast, reduceIte, Nat.reduceEqDiff, *]; exact rfl))); (· (exact rfl)); (· (exact rfl)); (· (simp (disch := omega) only [push_cast, reduceIte, Nat.reduceEqDiff, beq_self_eq_true, bne_self_eq_false, Int.reduceBEq, Int.reduceBNe, Int.reduceLT, Int.reduceLE, Nat.reduceAdd, Nat.reduceMul, Nat.reduceSub, Int.reduceToNat, Nat.reducePow, Int.reducePow, *] <;> exact rfl)); (· (exact en (by kernel_rfl))); (· (simp (disch := omega) only [push_cast, reduceIte, Nat.reduceEqDiff, beq_self_eq_true, bne_self_eq_false, Int.reduceBEq, Int.reduceBNe, Int.reduceLT, Int.reduceLE, Nat.reduceAdd, Nat.reduceMul, Nat.reduceSub, Int.reduceToNat, Nat.reducePow, Int.reducePow, *] <;> exact rfl)))
                    · exact ih.out _ _ (l ++ [x]) _ _ (by omega) (by simp; omega) (ChOK.snoc hl x hxb (by omega)) (IsInts.atLoc (by decide) rfl (by simp) (.inl rfl)) (fun a n c e => by cases e; exact loc_off hic) (fun a n c e => by cases e; exact loc_off hid) (hcells.ov _ _)
                    · rintro v' h' ⟨e, hup⟩
                      cases e
                      refine ⟨?_, ?_⟩
                      · repeat (first | exact ReF.nil | (refine ReF.dep (by exact rfl) ?_))
                      · refine PL.nil ?_
                        (try simp (disch := omega) only [qA])
                        rcases hup with rfl | ⟨l3, n3, c3, co3, g1, g2, g3, g4, rfl⟩
                        · ((repeat refine CWp.seq ?_); refine CWp.region ?_)
                          repeat (first | refine RL.w good ?_ | refine RL.k ?_)
                          refine RL.nil ?_
                          (try simp (disch := omega) only [qA])
                          refine ⟨(i + 1, none), ⟨by (try dsimp only); omega, trivial⟩, by (try dsimp only); omega, ?_⟩
                          dsimp only [vsT, vsH]
                          rw [hx2.out]
                          ((try dsimp only); apply fades_to En [(0, 0)]; (· (repeat (refine And.intro ?_ ?_; (· ((try simp only [push_cast, reduceIte, Nat.reduceEqDiff, *]) <;> first | exact rfl | exact SV.fv En (by assumption) | exact ⟨_, rfl, Rn_loc ⟨_, rfl⟩ rfl, rfl, rfl⟩ | exact ⟨_, _, rfl, rfl, rfl⟩ | exact congrArg (Value.int _) (by omega))))) <;> exact trivial); (· exact trivial); (· exact trivial); (· (repeat (refine And.intro ⟨by decide, _, _, rfl, rfl, ?_⟩ ?_; (· (first | exact ⟨_, rfl, flatsFV rfl⟩ | exact ⟨_, rfl, intsFVL _⟩ | (refine ⟨_, rfl, ?_⟩; (repeat (refine ⟨_, _, rfl, ?_, ?_⟩; (· (first | exact rfl | exact SV.fv En (by assumption) | exact ⟨_, rfl, Rn_loc ⟨_, rfl⟩ rfl, rfl, rfl⟩ | exact ⟨_, _, rfl, rfl, rfl⟩ | exact congrArg (Value.int _) (by omega))))); exact rfl))))) <;> exact trivial); (· exact rfl))
                        · rw [ov_ovU rfl (by simp only [List.mem_cons, List.not_mem_nil, or_false]; rintro p (rfl | rfl) <;> assumption), loc_ov]
                          simp only [shift, List.cons_append, List.nil_append, Nat.add_zero]
                          replace g4 := Hid.mk g4
                          ((repeat refine CWp.seq ?_); refine CWp.region ?_)
                          repeat (first | refine RL.w good ?_ | refine RL.k ?_)
                          refine RL.nil ?_
                          (try simp (disch := omega) only [qA])
                          refine ⟨(i + 1, some (l3, n3, c3, co3)), ⟨by (try dsimp only); omega, ⟨g1, g2, g3, g4.out⟩⟩, by (try dsimp only); omega, ?_⟩
                          dsimp only [vsT, vsH]
                          rw [hx2.out]
                          (apply fades_to En [(0, 0), (1, 4)]; (· (repeat (refine And.intro ?_ ?_; (· ((try simp only [push_cast, reduceIte, Nat.reduceEqDiff, *]) <;> first | exact rfl | exact SV.fv En (by assumption) | exact ⟨_, rfl, Rn_loc ⟨_, rfl⟩ rfl, rfl, rfl⟩ | exact ⟨_, _, rfl, rfl, rfl⟩ | exact congrArg (Value.int _) (by omega))))) <;> exact trivial); (· exact FU_two (j := 4) (by simp [lk]) (by simp [lk, n1]) (Rn_loc ⟨_, rfl⟩ rfl)); (· exact FU2_two n1 (by simp)); (· (repeat (refine And.intro ⟨by decide, _, _, rfl, rfl, ?_⟩ ?_; (· (first | exact ⟨_, rfl, flatsFV rfl⟩ | exact ⟨_, rfl, intsFVL _⟩ | (refine ⟨_, rfl, ?_⟩; (repeat (refine ⟨_, _, rfl, ?_, ?_⟩; (· (first | exact rfl | exact SV.fv En (by assumption) | exact ⟨_, rfl, Rn_loc ⟨_, rfl⟩ rfl, rfl, rfl⟩ | exact ⟨_, _, rfl, rfl, rfl⟩ | exact congrArg (Value.int _) (by omega))))); exact rfl))))) <;> exact trivial); (· exact rfl))
                    · rintro v' h' ⟨e, _⟩; cases e
                  · intro hc; cases hc
                · rintro v h' ⟨e, _⟩; cases e
            · rintro v h' ⟨e, _⟩; cases e
          · (intro hc; (try simp only [decide_eq_true_eq, decide_eq_false_iff_not, Bool.not_eq_true, Bool.not_eq_false, Int.not_lt, Int.not_le, bne_iff_ne, beq_iff_eq, ne_eq, Bool.not_eq_eq_eq_not, Bool.not_true, Bool.not_false] at hc))
            (refine CWp.exit ?_; (try simp (disch := omega) only [qA]))
            ((try simp (disch := omega) only [qA]); refine nmB ?_; (try simp only [oneV]))
            exact EndB.plain En rfl ⟨rfl, .inl rfl⟩

        · obtain ⟨s1, s2, s3, s4⟩ := h2
          replace s4 := Hid.mk s4
          dsimp only [vsT, vsH]
          ((repeat refine CWp.seq ?_); refine CWp.region ?_)
          repeat (first | refine RL.w good ?_ | refine RL.k ?_)
          refine RL.nil ?_
          (try simp (disch := omega) only [qA])
          ((repeat refine CWp.seq ?_); refine CWp.cnd good ?_ ?_)
          · (intro hc; (try simp only [decide_eq_true_eq, decide_eq_false_iff_not, Bool.not_eq_true, Bool.not_eq_false, Int.not_lt, Int.not_le, bne_iff_ne, beq_iff_eq, ne_eq, Bool.not_eq_eq_eq_not, Bool.not_true, Bool.not_false] at hc))
            generalize hx : l.getD (l.length - 1) 0 + 1 + (i : Int) = x at *
            have hxb : 0 ≤ x ∧ x ≤ 46 := by omega
            have hx2 : l.getD (l.length - 1) 0 + 1 + ((i + 1 : Nat) : Int) = x + 1 := by omega
            have h3 : i + 1 ≤ (M - l.getD (l.length - 1) 0).toNat := by omega
            replace hx := Hid.mk hx
            replace hx2 := Hid.mk hx2
            (refine CWp.skip ?_; (try simp (disch := omega) only [qA]))
            ((repeat refine CWp.seq ?_); refine CWp.block ?_)
            ((repeat refine CWp.seq ?_); refine CWp.region ?_)
            repeat (first | refine RL.w good ?_ | refine RL.k ?_)
            (refine' RL.c good ?_ ?_ ?_; rotate_left)
            · exact f42s _ _ _ _ (hv.ovU (fun a n c e => by simp only [lk]; rw [if_neg (fun q => ho1 a n c e q.symm), if_neg (fun q => ho2 a n c e q.symm)]) _ _) (by omega) (by omega) (fun j => by have := hl.b j; omega)
            · rintro v' h' ⟨e, rfl⟩
              cases e
              obtain ⟨wa, wb, wt, hw⟩ := wayV_form l x
              rw [hw]
              simp only [push_cast]
              repeat (first | refine RL.w good ?_ | refine RL.k ?_)
              refine RL.nil ?_
              (try simp (disch := omega) only [qA])
              cases wt
              · ((repeat refine CWp.seq ?_); refine CWp.region ?_)
                repeat (first | refine RL.w good ?_ | refine RL.k ?_)
                refine RL.nil ?_
                (try simp (disch := omega) only [qA])
                ((repeat refine CWp.seq ?_); refine CWp.cnd good ?_ ?_)
                · intro hc; cases hc
                · intro _
                  (refine CWp.skip ?_; (try simp (disch := omega) only [qA]))
                  ((repeat refine CWp.seq ?_); refine CWp.region ?_)
                  repeat (first | refine RL.w good ?_ | refine RL.k ?_)
                  refine RL.nil ?_
                  (try simp (disch := omega) only [qA])
                  refine ⟨(i + 1, some (l0, n0, c0, co0)), ⟨by (try dsimp only); omega, ⟨s1, s2, s3, s4.out⟩⟩, by (try dsimp only); omega, ?_⟩
                  dsimp only [vsT, vsH]
                  rw [hx2.out]
                  (apply fades_to En [(0, 0), (1, 1)]; (· (repeat (refine And.intro ?_ ?_; (· ((try simp only [push_cast, reduceIte, Nat.reduceEqDiff, *]) <;> first | exact rfl | exact SV.fv En (by assumption) | exact ⟨_, rfl, Rn_loc ⟨_, rfl⟩ rfl, rfl, rfl⟩ | exact ⟨_, _, rfl, rfl, rfl⟩ | exact congrArg (Value.int _) (by omega))))) <;> exact trivial); (· exact FU_two (j := 1) (by simp [lk]) (by simp [lk, n1]) (Rn_loc ⟨_, rfl⟩ rfl)); (· exact FU2_two n1 (by simp)); (· (repeat (refine And.intro ⟨by decide, _, _, rfl, rfl, ?_⟩ ?_; (· (first | exact ⟨_, rfl, flatsFV rfl⟩ | exact ⟨_, rfl, intsFVL _⟩ | (refine ⟨_, rfl, ?_⟩; (repeat (refine ⟨_, _, rfl, ?_, ?_⟩; (· (first | exact rfl | exact SV.fv En (by assumption) | exact ⟨_, rfl, Rn_loc ⟨_, rfl⟩ rfl, rfl, rfl⟩ | exact ⟨_, _, rfl, rfl, rfl⟩ | exact congrArg (Value.int _) (by omega))))); exact rfl))))) <;> exact trivial); (· exact rfl))
              · ((repeat refine CWp.seq ?_); refine CWp.region ?_)
                repeat (first | refine RL.w good ?_ | refine RL.k ?_)
                (refine' RL.c good ?_ ?_ ?_; rotate_left)
                · exact f65s _ _ _ _ (nilInts _) (by simp)
                · rintro v' h' ⟨e, rfl⟩
                  cases e
                  rw [hasnil]
                  simp only [push_cast]
                  repeat (first | refine RL.w good ?_ | refine RL.k ?_)
                  refine RL.nil ?_
                  (try simp (disch := omega) only [qA])
                  ((repeat refine CWp.seq ?_); refine CWp.cnd good ?_ ?_)
                  · intro _
                    ((repeat refine CWp.seq ?_); refine CWp.drawI good (fun g => memN g [69]) [(0, true), (1, true), (2, true), (3, true), (6, true), (7, true), (8, true), (4, false), (5, false), (9, false)] (by kernel_rfl) (fun _ _ _ q => q) ?_)
                    repeat (first | refine PL.w ?_ | refine PL.wk ?_ | refine PL.ew ?_ | refine PL.ewk ?_)
                    (apply PL.flcall; (· (first | exact rfl | (simp only [push_cast, reduceIte, Nat.reduceEqDiff, *]; done) | (simp only [push_cast, reduceIte, Nat.reduceEqDiff, *]; exact rfl))); (· (exact rfl)); (· (exact rfl)); (· (simp (disch := omega) only [push_cast, reduceIte, Nat.reduceEqDiff, beq_self_eq_true, bne_self_eq_false, Int.reduceBEq, Int.reduceBNe, Int.reduceLT, Int.reduceLE, Nat.reduceAdd, Nat.reduceMul, Nat.reduceSub, Int.reduceToNat, Nat.reducePow, Int.reducePow, *] <;> exact rfl)); (· (exact en (by kernel_rfl))); (· (simp (disch := omega) only [push_cast, reduceIte, Nat.reduceEqDiff, beq_self_eq_true, bne_self_eq_false, Int.reduceBEq, Int.reduceBNe, Int.reduceLT, Int.reduceLE, Nat.reduceAdd, Nat.reduceMul, Nat.reduceSub, Int.reduceToNat, Nat.reducePow, Int.reducePow, *] <;> exact rfl)))
                    · exact f69s _ _ _ (hv.ovU (fun a n c e => by simp only [lk]; rw [if_neg (fun q => ho1 a n c e q.symm), if_neg (fun q => ho2 a n c e q.symm)]) _ _) (by omega)
                    · simp only [push_cast] <;> exact rfl <;> exact rfl
                    repeat (first | refine PL.w ?_ | refine PL.wk ?_ | refine PL.ew ?_ | refine PL.ewk ?_)
                    (apply PL.ef; (· (first | exact rfl | (simp only [push_cast, reduceIte, Nat.reduceEqDiff, *]; done) | (simp only [push_cast, reduceIte, Nat.reduceEqDiff, *]; exact rfl))); (· (simp (disch := omega) only [push_cast, reduceIte, Nat.reduceEqDiff, beq_self_eq_true, bne_self_eq_false, Int.reduceBEq, Int.reduceBNe, Int.reduceLT, Int.reduceLE, Nat.reduceAdd, Nat.reduceMul, Nat.reduceSub, Int.reduceToNat, Nat.reducePow, Int.reducePow, *] <;> exact rfl)); (· (simp only [push_cast] <;> exact rfl)); (· (simp (disch := omega) only [push_cast, reduceIte, Nat.reduceEqDiff, Nat.reduceAdd] <;> exact rfl)))
                    · (apply ReF.fl; (· (apply Float.call; (· (exact rfl)); (· (exact rfl)); (· (simp (disch := omega) only [push_cast, reduceIte, Nat.reduceEqDiff, beq_self_eq_true, bne_self_eq_false, Int.reduceBEq, Int.reduceBNe, Int.reduceLT, Int.reduceLE, Nat.reduceAdd, Nat.reduceMul, Nat.reduceSub, Int.reduceToNat, Nat.reducePow, Int.reducePow, *] <;> exact rfl)); (· (exact en (by kernel_rfl))); (· (simp (disch := omega) only [push_cast, reduceIte, Nat.reduceEqDiff, beq_self_eq_true, bne_self_eq_false, Int.reduceBEq, Int.reduceBNe, Int.reduceLT, Int.reduceLE, Nat.reduceAdd, Nat.reduceMul, Nat.reduceSub, Int.reduceToNat, Nat.reducePow, Int.reducePow, *] <;> exact rfl)); exact f69s _ _ _ (hv.ovU (fun a n c e => by simp only [lk]; rw [if_neg (fun q => ho1 a n c e q.symm), if_neg (fun q => ho2 a n c e q.symm)]) _ _) (by omega))))
                      (apply ReF.op; (· (simp (disch := omega) only [push_cast, reduceIte, Nat.reduceEqDiff, beq_self_eq_true, bne_self_eq_false, Int.reduceBEq, Int.reduceBNe, Int.reduceLT, Int.reduceLE, Nat.reduceAdd, Nat.reduceMul, Nat.reduceSub, Int.reduceToNat, Nat.reducePow, Int.reducePow, *] <;> exact rfl)))
                      exact ReF.nil
                    repeat (first | refine PL.w ?_ | refine PL.wk ?_ | refine PL.ew ?_ | refine PL.ewk ?_)
                    (apply PL.efcall; (· (first | exact rfl | (simp only [push_cast, reduceIte, Nat.reduceEqDiff, *]; done) | (simp only [push_cast, reduceIte, Nat.reduceEqDiff, *]; exact rfl))); (· (exact rfl)); (· (exact rfl)); (· (simp (disch := omega) only [push_cast, reduceIte, Nat.reduceEqDiff, beq_self_eq_true, bne_self_eq_false, Int.reduceBEq, Int.reduceBNe, Int.reduceLT, Int.reduceLE, Nat.reduceAdd, Nat.reduceMul, Nat.reduceSub, Int.reduceToNat, Nat.reducePow, Int.reducePow, *] <;> exact rfl)); (· (exact en (by kernel_rfl))); (· (simp (disch := omega) only [push_cast, reduceIte, Nat.reduceEqDiff, beq_self_eq_true, bne_self_eq_false, Int.reduceBEq, Int.reduceBNe, Int.reduceLT, Int.reduceLE, Nat.reduceAdd, Nat.reduceMul, Nat.reduceSub, Int.reduceToNat, Nat.reducePow, Int.reducePow, *] <;> exact rfl)))
                    · exact ih.out _ _ (l ++ [x]) _ _ (by omega) (by simp; omega) (ChOK.snoc hl x hxb (by omega)) (IsInts.atLoc (by decide) rfl (by simp) (.inl rfl)) (fun a n c e => by cases e; exact loc_off hic) (fun a n c e => by cases e; exact loc_off hid) (hcells.ovU n1 _ _ (.inr ⟨_, _, _, rfl⟩))
                    · rintro v' h' ⟨e, hup⟩
                      cases e
                      refine ⟨?_, ?_⟩
                      · repeat (first | exact ReF.nil | (refine ReF.dep (by exact rfl) ?_))
                      · refine PL.nil ?_
                        (try simp (disch := omega) only [qA])
                        rcases hup with rfl | ⟨l3, n3, c3, co3, g1, g2, g3, g4, rfl⟩
                        · ((repeat refine CWp.seq ?_); refine CWp.region ?_)
                          repeat (first | refine RL.w good ?_ | refine RL.k ?_)
                          refine RL.nil ?_
                          (try simp (disch := omega) only [qA])
                          refine ⟨(i + 1, some (l0, n0, c0, co0)), ⟨by (try dsimp only); omega, ⟨s1, s2, s3, s4.out⟩⟩, by (try dsimp only); omega, ?_⟩
                          dsimp only [vsT, vsH]
                          rw [hx2.out]
                          (apply fades_to En [(0, 0), (1, 1)]; (· (repeat (refine And.intro ?_ ?_; (· ((try simp only [push_cast, reduceIte, Nat.reduceEqDiff, *]) <;> first | exact rfl | exact SV.fv En (by assumption) | exact ⟨_, rfl, Rn_loc ⟨_, rfl⟩ rfl, rfl, rfl⟩ | exact ⟨_, _, rfl, rfl, rfl⟩ | exact congrArg (Value.int _) (by omega))))) <;> exact trivial); (· exact FU_two (j := 1) (by simp [lk]) (by simp [lk, n1]) (Rn_loc ⟨_, rfl⟩ rfl)); (· exact FU2_two n1 (by simp)); (· (repeat (refine And.intro ⟨by decide, _, _, rfl, rfl, ?_⟩ ?_; (· (first | exact ⟨_, rfl, flatsFV rfl⟩ | exact ⟨_, rfl, intsFVL _⟩ | (refine ⟨_, rfl, ?_⟩; (repeat (refine ⟨_, _, rfl, ?_, ?_⟩; (· (first | exact rfl | exact SV.fv En (by assumption) | exact ⟨_, rfl, Rn_loc ⟨_, rfl⟩ rfl, rfl, rfl⟩ | exact ⟨_, _, rfl, rfl, rfl⟩ | exact congrArg (Value.int _) (by omega))))); exact rfl))))) <;> exact trivial); (· exact rfl))
                        · rw [ov_ovU rfl (by simp only [List.mem_cons, List.not_mem_nil, or_false]; rintro p (rfl | rfl) <;> assumption), loc_ov]
                          simp only [shift, List.cons_append, List.nil_append, Nat.add_zero]
                          replace g4 := Hid.mk g4
                          ((repeat refine CWp.seq ?_); refine CWp.region ?_)
                          repeat (first | refine RL.w good ?_ | refine RL.k ?_)
                          refine RL.nil ?_
                          (try simp (disch := omega) only [qA])
                          refine ⟨(i + 1, some (l3, n3, c3, co3)), ⟨by (try dsimp only); omega, ⟨g1, g2, g3, g4.out⟩⟩, by (try dsimp only); omega, ?_⟩
                          dsimp only [vsT, vsH]
                          rw [hx2.out]
                          (apply fades_to En [(0, 0), (1, 5)]; (· (repeat (refine And.intro ?_ ?_; (· ((try simp only [push_cast, reduceIte, Nat.reduceEqDiff, *]) <;> first | exact rfl | exact SV.fv En (by assumption) | exact ⟨_, rfl, Rn_loc ⟨_, rfl⟩ rfl, rfl, rfl⟩ | exact ⟨_, _, rfl, rfl, rfl⟩ | exact congrArg (Value.int _) (by omega))))) <;> exact trivial); (· exact FU_two (j := 5) (by simp [lk]) (by simp [lk, n1]) (Rn_loc ⟨_, rfl⟩ rfl)); (· exact FU2_two n1 (by simp)); (· (repeat (refine And.intro ⟨by decide, _, _, rfl, rfl, ?_⟩ ?_; (· (first | exact ⟨_, rfl, flatsFV rfl⟩ | exact ⟨_, rfl, intsFVL _⟩ | (refine ⟨_, rfl, ?_⟩; (repeat (refine ⟨_, _, rfl, ?_, ?_⟩; (· (first | exact rfl | exact SV.fv En (by assumption) | exact ⟨_, rfl, Rn_loc ⟨_, rfl⟩ rfl, rfl, rfl⟩ | exact ⟨_, _, rfl, rfl, rfl⟩ | exact congrArg (Value.int _) (by omega))))); exact rfl))))) <;> exact trivial); (· exact rfl))
                    · rintro v' h' ⟨e, _⟩; cases e
                  · intro hc; cases hc
                · rintro v h' ⟨e, _⟩; cases e
            · rintro v h' ⟨e, _⟩; cases e
          · (intro hc; (try simp only [decide_eq_true_eq, decide_eq_false_iff_not, Bool.not_eq_true, Bool.not_eq_false, Int.not_lt, Int.not_le, bne_iff_ne, beq_iff_eq, ne_eq, Bool.not_eq_eq_eq_not, Bool.not_true, Bool.not_false] at hc))
            (refine CWp.exit ?_; (try simp (disch := omega) only [qA]))
            ((try simp (disch := omega) only [qA]); refine nmB ?_; (try simp only [oneV]))
            exact Upd.endB (j := 1) (co := co0) En n1 hic hid s1 s2 s3 s4.out

end Go.Ab
