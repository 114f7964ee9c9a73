/- A part of the proof of a law over a given program: Ev4, Lift, Dfr. -/
import Derived.Recover
import Derived.Test.YtckgcmgnpblnaaaGreatDoorT08
set_option linter.unusedVariables false
set_option linter.unusedSimpArgs false
/- The machine is sound. -/
namespace Go.Ab
open Go.RowKit
section
variable {P : Program} {ng : Nat} {mt : List (Nat × String × Nat)} {pr : Prim} {orc : Orc}
theorem okOps_cons {N : Nat} {o : Oper} {l : List Oper} (h : okOps ng N (o :: l) = true) : okL ng o.op.operands.toList = true ∧ dstOK N o = true ∧ okOps ng N l = true := by
  unfold okOps at h
  cases hb : (okL ng o.op.operands.toList && dstOK N o) with
  | false => rw [hb] at h; cases h
  | true =>
    rw [hb] at h
    simp only [Bool.and_eq_true] at hb
    exact ⟨hb.1, hb.2, h⟩
theorem Sound.zero : Sound P ng mt pr orc 0 where
  code := fun _ _ _ _ _ _ _ _ _ h => by simp [ev] at h
  loop := fun _ _ _ _ _ _ _ _ _ h => by simp [ev] at h
  scope := fun _ _ _ _ _ _ _ _ _ _ _ h => by simp [evScope] at h
  ops := fun _ _ _ _ _ _ _ _ _ _ h => by simp [evOps] at h
  plan := fun _ _ _ _ _ _ _ _ _ _ _ _ _ h => by simp [evPlan] at h
  call := fun _ _ _ _ _ _ h => by simp [evCall] at h
theorem Sound.call_succ {n : Nat} (ih : Sound P ng mt pr orc n) : ∀ f args hp nx k kp, evCall (eeOf P ng mt pr orc) (n + 1) f args hp nx k kp = true →
    ACalls P f args (fun e h => ∃ hp nx, h = hpOf hp nx ∧ (match e with | .ret v => k v hp nx = true | .panic v => ∃ tm, kp v tm hp nx = true)) (hpOf hp nx) := by
  intro f args hp nx k kp h
  unfold evCall at h
  split at h
  · rename_i fn hf
    obtain ⟨h1, c, h2, h3, h4, h5⟩ := fnOf_spec hf
    rw [h2] at h
    simp only at h
    cases hlb : Nat.blt args.length 4000 with
    | false => rw [hlb] at h; cases h
    | true =>
      rw [hlb] at h
      have hl := blt_iff.1 hlb
      refine ACalls.body (E := (eeOf P ng mt pr orc).ty) envOK h1 h2 ?_
      have := ih.code fn.ntmps (max args.length fn.ntmps) c _ _ _ h3 h4 (Nat.le_max_right _ _) h
      have hT : St.T ⟨argS args 0 .nil, hp, nx⟩ = argT args := argS_T hl
      rw [hT] at this
      refine this.mono ?_
      rintro e T h' ⟨s, rfl, q⟩
      cases e with
      | normal =>
        obtain ⟨rfl, q⟩ := q
        simp only at q
        split at q
        · rename_i r hr
          exact ⟨r, hr, s.hp, s.nx, rfl, q⟩
        · cases q
      | ret =>
        obtain ⟨rfl, q⟩ := q
        simp only at q
        split at q
        · rename_i r hr
          exact ⟨r, hr, s.hp, s.nx, rfl, q⟩
        · cases q
      | panic v =>
        refine ⟨s.hp, s.nx, rfl, ?_⟩
        rcases q with ⟨_, q⟩ | q
        · exact ⟨_, q⟩
        · exact ⟨_, q⟩
      | exit i => exact absurd q.2 (by simp)
      | goto i => exact absurd q.2 (by simp)
  · cases h
theorem Sound.scope_succ {n : Nat} (ih : Sound P ng mt pr orc n) : ∀ N N' b c s k kp, okCode ng N b = true → okCode ng N c = true → N < 4000 → N ≤ N' → evScope (eeOf P ng mt pr orc) (n + 1) b c s k kp = true → AScope P N' b (QK k kp) (n + 1) c s.T s.h := by
  intro N N' b c s k kp hb hc hN hN' h
  unfold evScope at h
  refine (ih.code N N' c _ _ _ hc hN hN' h).mono ?_
  rintro e T h' ⟨s', rfl, q⟩
  cases e with
  | goto l =>
    obtain ⟨rfl, q⟩ := q
    simp only at q
    split at q
    · rename_i r hr
      exact ⟨r, hr, ih.scope N N' b r s' k kp hb (findLabel_ok hb hr) hN hN' q⟩
    · cases q
  | normal => exact ⟨s', rfl, q⟩
  | exit i => exact ⟨s', rfl, q⟩
  | ret => exact ⟨s', rfl, q⟩
  | panic v => exact ⟨s', rfl, q⟩
theorem Sound.loop_succ {n : Nat} (ih : Sound P ng mt pr orc n) : ∀ N N' b s k kp, okCode ng N b = true → N < 4000 → N ≤ N' → ev (eeOf P ng mt pr orc) (n + 1) (.loop b) s k kp = true → ARounds P N' b (QK k kp) (n + 1) s.T s.h := by
  intro N N' b s k kp hb hN hN' h
  unfold ev at h
  refine (ih.code N N' b _ _ _ hb hN hN' h).mono ?_
  rintro e T h' ⟨s', rfl, q⟩
  cases e with
  | normal =>
    obtain ⟨rfl, q⟩ := q
    exact ih.loop N N' b s' k kp hb hN hN' q
  | goto l => exact ⟨s', rfl, q⟩
  | exit i => exact ⟨s', rfl, q⟩
  | ret => exact ⟨s', rfl, q⟩
  | panic v => exact ⟨s', rfl, q⟩
variable (hng : ng ≤ P.globals.size) (hmt : MtOK P mt) (hpr : PrimOK P pr) (horc : OrcOK P orc)
include hng hmt hpr horc
theorem Sound.ops_succ {n : Nat} (ih : Sound P ng mt pr orc n) : ∀ N N' ops rest s k kp, okOps ng N rest = true → N < 4000 → N ≤ N' → evOps (eeOf P ng mt pr orc) (n + 1) ops.toList rest s k kp = true → AList P N' ops rest (QK k kp) s.T s.h := by
  intro N N' ops rest s k kp hok hN hN' h
  cases rest with
  | nil =>
    unfold evOps at h
    exact AList.nil ⟨s, rfl, rfl, h⟩
  | cons o r =>
    obtain ⟨ho, hd, hr⟩ := okOps_cons hok
    have hd' := dstOK_mono hd hN'
    have hlt : ∀ i, o.dst = some i → i < 4000 := fun i hi => Nat.lt_trans (dstOK_spec hd i hi) hN
    unfold evOps at h
    simp only [opF_eq] at h
    cases hw : wantA ops.toList (tmv s.tm) o with
    | false =>
      rw [hw] at h
      simp only [cond_false] at h
      cases hk : gK ops.toList (tmv s.tm) o with
      | false => rw [hk] at h; cases h
      | true =>
      rw [hk] at h
      have := ih.ops N N' ops r _ k kp hr hN hN' h
      refine AList.skip hd' hw hk ?_
      have hT : putT s.T o.dst undef = St.T ⟨putS s.tm o.dst undef, s.hp, s.nx⟩ := (putS_eq hlt).symm
      rw [hT]
      exact this
    | true =>
      rw [hw] at h
      simp only [cond_true] at h
      split at h
      · rename_i v e hop
        cases hrm : roomT e s.nx with
        | false => rw [hrm] at h; cases h
        | true =>
          rw [hrm] at h
          have := ih.ops N N' ops r _ k kp hr hN hN' h
          refine AList.op (h := s.h) (E := (eeOf P ng mt pr orc).ty) envOK hng hd' hw ho hop ?_
          have hT : putT s.T o.dst v = St.T ⟨putS s.tm o.dst v, (appT e s.hp s.nx).1, (appT e s.hp s.nx).2⟩ := (putS_eq hlt).symm
          have hh : e.app s.h.next s.h = St.h ⟨putS s.tm o.dst v, (appT e s.hp s.nx).1, (appT e s.hp s.nx).2⟩ := (appT_eq hrm).symm
          rw [hT, hh]
          exact this
      · split at h
        · rename_i c hop
          split at h
          · rename_i f hc
            split at h
            · rename_i g x y hf
              split at h
              · rename_i F hF
                obtain ⟨hg, hcall⟩ := horc _ _ _ _ _ _ _ hF h
                refine AList.call hng hd' hw ho hop hc hf hg ?_
                rw [List.append_assoc]
                refine hcall.mono ?_
                rintro e h' ⟨hp, nx, rfl, q⟩
                cases e with
                | ret v =>
                  have := ih.ops N N' ops r _ k kp hr hN hN' q
                  have hT : putT s.T o.dst v = St.T ⟨putS s.tm o.dst v, hp, nx⟩ := (putS_eq hlt).symm
                  show AList P N' ops r (QK k kp) (putT s.T o.dst v) (hpOf hp nx)
                  rw [hT]
                  exact this
                | panic v => obtain ⟨_, q⟩ := q; exact ⟨⟨s.tm, hp, nx⟩, rfl, .inl ⟨rfl, q⟩⟩
              split at h
              · rename_i v e hpe
                obtain ⟨hg, hcall⟩ := hpr _ _ s.h _ _ hpe
                cases hrm : roomT e s.nx with
                | false => rw [hrm] at h; cases h
                | true =>
                rw [hrm] at h
                refine AList.call hng hd' hw ho hop hc hf hg ?_
                rw [List.append_assoc]
                refine hcall.mono ?_
                rintro r' h' ⟨rfl, rfl⟩
                have := ih.ops N N' ops r _ k kp hr hN hN' h
                have hT : putT s.T o.dst v = St.T ⟨putS s.tm o.dst v, (appT e s.hp s.nx).1, (appT e s.hp s.nx).2⟩ := (putS_eq hlt).symm
                have hh : e.app s.h.next s.h = St.h ⟨putS s.tm o.dst v, (appT e s.hp s.nx).1, (appT e s.hp s.nx).2⟩ := (appT_eq hrm).symm
                show AList P N' ops r (QK k kp) (putT s.T o.dst v) (e.app s.h.next s.h)
                rw [hT, hh]
                exact this
              have hcall := ih.call _ _ _ _ _ _ h
              have hg : Enters P g := by
                cases n with
                | zero => simp [evCall] at h
                | succ n =>
                  unfold evCall at h
                  split at h
                  · rename_i fn hfn
                    exact (fnOf_spec hfn).2.choose_spec.2.2.2
                  · cases h
              refine AList.call hng hd' hw ho hop hc hf hg ?_
              rw [List.append_assoc]
              refine hcall.mono ?_
              rintro e h' ⟨hp, nx, rfl, q⟩
              cases e with
              | ret v =>
                have := ih.ops N N' ops r _ k kp hr hN hN' q
                have hT : putT s.T o.dst v = St.T ⟨putS s.tm o.dst v, hp, nx⟩ := (putS_eq hlt).symm
                show AList P N' ops r (QK k kp) (putT s.T o.dst v) (hpOf hp nx)
                rw [hT]
                exact this
              | panic v => obtain ⟨_, q⟩ := q; exact ⟨⟨s.tm, hp, nx⟩, rfl, .inl ⟨rfl, q⟩⟩
            · cases h
          · rename_i f name hc
            split at h
            · rename_i t x hf
              split at h
              · rename_i g hfm
                have hcall := ih.call _ _ _ _ _ _ h
                have hg : Enters P g := by
                  cases n with
                  | zero => simp [evCall] at h
                  | succ n =>
                    unfold evCall at h
                    split at h
                    · rename_i fn hfn
                      exact (fnOf_spec hfn).2.choose_spec.2.2.2
                    · cases h
                refine AList.invoke hng hd' hw ho hop hc hf hg (hmt _ (findMt_spec hfm)) ?_
                refine hcall.mono ?_
                rintro e h' ⟨hp, nx, rfl, q⟩
                cases e with
                | ret v =>
                  have := ih.ops N N' ops r _ k kp hr hN hN' q
                  have hT : putT s.T o.dst v = St.T ⟨putS s.tm o.dst v, hp, nx⟩ := (putS_eq hlt).symm
                  show AList P N' ops r (QK k kp) (putT s.T o.dst v) (hpOf hp nx)
                  rw [hT]
                  exact this
                | panic v => obtain ⟨_, q⟩ := q; exact ⟨⟨s.tm, hp, nx⟩, rfl, .inl ⟨rfl, q⟩⟩
              · cases h
            · cases h
          · cases h
        · rename_i x hop
          split at h
          · rename_i t v hx
            exact AList.panic hng hw ho hop hx ⟨s, rfl, .inl ⟨rfl, h⟩⟩
          · cases h
        · rename_i x str hop
          split at h
          · rename_i L hL
            refine AList.next (h := s.h) hng hd' hw ho hop hL ?_
            rintro ⟨v, e⟩ hin
            have h1 := allB_mem h _ hin
            cases hrm : roomT e s.nx with
            | false => rw [hrm] at h1; cases h1
            | true =>
              rw [hrm] at h1
              have := ih.ops N N' ops r _ k kp hr hN hN' h1
              have hT : putT s.T o.dst v = St.T ⟨putS s.tm o.dst v, (appT e s.hp s.nx).1, (appT e s.hp s.nx).2⟩ := (putS_eq hlt).symm
              have hh : e.app s.h.next s.h = St.h ⟨putS s.tm o.dst v, (appT e s.hp s.nx).1, (appT e s.hp s.nx).2⟩ := (appT_eq hrm).symm
              rw [hT, hh]
              exact this
          · cases h
        · cases h
omit hng hmt hpr horc in
theorem call_enters {n f : Nat} {args : List Value} {hp : Tr AObj} {nx : Nat} {k : KR} {kp : KP} (h : evCall (eeOf P ng mt pr orc) n f args hp nx k kp = true) : Enters P f := by
  cases n with
  | zero => simp [evCall] at h
  | succ n =>
    unfold evCall at h
    split at h
    · rename_i fn hfn
      exact (fnOf_spec hfn).2.choose_spec.2.2.2
    · cases h
omit hmt horc in
theorem Sound.plan_succ {n : Nat} (ih : Sound P ng mt pr orc n) : ∀ ops m l p L s k kp, (∀ (i : Nat) (o : Oper), ops[i]? = some o → okL ng o.op.operands.toList = true ∧ (∀ d, o.dst = some d → d < 4000)) → planOf (pureFn (eeOf P ng mt pr orc)) ops m l = some p → (∀ e ∈ L, isFl e.o.op = true) → Closed ops l → SL (pureFn (eeOf P ng mt pr orc)) (eeOf P ng mt pr orc).ty ops L l s.h →
    evPlan (eeOf P ng mt pr orc) (n + 1) ops.toList p L s k kp = true → DAny P ops (QK k kp) (QPk kp) (SL (pureFn (eeOf P ng mt pr orc)) (eeOf P ng mt pr orc).ty ops L) m l s.T s.h := by
  intro ops m l p L s k kp hok hp hL hc hs h
  cases m with
  | zero =>
    unfold planOf at hp
    split at hp
    · rename_i hr
      cases hp
      unfold evPlan at h
      exact DAny.done hr ⟨s, rfl, rfl, h⟩ 0
    · cases hp
  | succ m =>
    unfold planOf at hp
    split at hp
    · rename_i hr
      cases hp
      unfold evPlan at h
      exact DAny.done hr ⟨s, rfl, rfl, h⟩ _
    · rename_i r rs hr
      split at hp
      · rename_i i o hfl
        obtain ⟨hi, ho, hof⟩ := findFl_spec hfl
        rw [← hr] at hi
        cases hfree : Region.free .any ops l i with
        | false => rw [hfree] at hp; cases hp
        | true =>
          rw [hfree] at hp
          simp only [cond_true] at hp
          split at hp
          · rename_i p' hp'
            cases hp
            obtain ⟨hko, hlt⟩ := hok i o ho
            have hil : l.getD i true = false := (mem_ready.1 hi).1
            have hilt : i < l.size := by
              rcases Nat.lt_or_ge i l.size with h' | h'
              · exact h'
              · simp [Array.getElem?_eq_none h'] at hil
            have hil' : l.getD i false = false := by simpa [hilt] using hil
            -- the floats that come change nothing
            have hset : ∀ (l' : Array Bool) (j : Nat) (oj : Oper), ops[j]? = some oj → isFlX (pureFn (eeOf P ng mt pr orc)) oj.op = false → (l'.setIfInBounds i true).getD j false = l'.getD j false := fun l' j oj hj hjf => by
              refine getD_set_ne false ?_
              intro e
              subst e
              rw [ho] at hj
              cases hj
              rw [hof] at hjf
              cases hjf
            have hS1 : ∀ (L : List LE) l' h', SL (pureFn (eeOf P ng mt pr orc)) (eeOf P ng mt pr orc).ty ops L (l'.setIfInBounds i true) h' → SL (pureFn (eeOf P ng mt pr orc)) (eeOf P ng mt pr orc).ty ops L l' h' := fun L l' h' q e he hn => q e he fun j oj hj hjf hd => by rw [hset l' j oj hj hjf]; exact hn j oj hj hjf hd
            have hS2 : ∀ (L : List LE) l' h', SL (pureFn (eeOf P ng mt pr orc)) (eeOf P ng mt pr orc).ty ops L l' h' → SL (pureFn (eeOf P ng mt pr orc)) (eeOf P ng mt pr orc).ty ops L (l'.setIfInBounds i true) h' := fun L l' h' q e he hn => q e he fun j oj hj hjf hd => by have := hn j oj hj hjf hd; rw [hset l' j oj hj hjf] at this; exact this
            unfold evPlan at h
            simp only [opF_eq] at h
            cases hw : wantA ops.toList (tmv s.tm) o with
            | false =>
              rw [hw] at h
              simp only [cond_false] at h
              cases hk : gK ops.toList (tmv s.tm) o with
              | false => rw [hk] at h; cases h
              | true =>
              rw [hk] at h
              simp only [cond_true] at h
              have dn := ih.plan ops m _ p' L ⟨putS s.tm o.dst undef, s.hp, s.nx⟩ k kp hok hp' hL (hc.add hi) (hS2 L l s.h hs) h
              have hT : St.T ⟨putS s.tm o.dst undef, s.hp, s.nx⟩ = putT s.T o.dst undef := putS_eq hlt
              rw [hT] at dn
              refine DAny.first (v := undef) (T0 := s.T) ho (hS1 L) (hS2 L) ?_ m l s.T s.h (Region.free_spec ho hfree) hi hc agree.refl hs dn
              intro l' T h' _ _ _ ha
              have := ha.want
              rw [show wantA ops.toList s.T o = false from hw] at this
              rw [← this]
              exact ⟨fun e => (by cases e), fun _ => ⟨ha.gk ▸ hk, rfl⟩⟩
            | true =>
              rw [hw] at h
              simp only [cond_true] at h
              split at h
              · rename_i v e hop
                have hof : isFl o.op = true := by
                  unfold isFlX at hof
                  cases hfl : isFl o.op with
                  | true => rfl
                  | false =>
                    rw [hfl] at hof
                    simp only [cond_false] at hof
                    split at hof
                    · rename_i c hoc
                      split at hof
                      · rename_i g hcc
                        rw [hoc] at hop
                        simp only [opA, hcc] at hop
                        cases hop
                      · cases hof
                    · cases hof
                have he := float_keep hof hop
                subst he
                have hT : St.T ⟨putS s.tm o.dst v, s.hp, s.nx⟩ = putT s.T o.dst v := putS_eq hlt
                cases hrd : readOp o.op with
                | false =>
                  rw [hrd] at h
                  simp only [cond_false] at h
                  have dn := ih.plan ops m _ p' L ⟨putS s.tm o.dst v, s.hp, s.nx⟩ k kp hok hp' hL (hc.add hi) (hS2 L l s.h hs) h
                  rw [hT] at dn
                  have hpu : pureOp o.op = true := by
                    unfold isFl at hof
                    rw [hrd] at hof
                    simpa using hof
                  refine DAny.first (v := v) (T0 := s.T) ho (hS1 L) (hS2 L) ?_ m l s.T s.h (Region.free_spec ho hfree) hi hc agree.refl hs dn
                  intro l' T h' _ _ _ ha
                  have hw' := ha.want
                  rw [show wantA ops.toList s.T o = true from hw] at hw'
                  refine ⟨fun _ => (AOne.op (E := (eeOf P ng mt pr orc).ty) envOK (v := v) (e := .keep) (by rw [← hop]; exact pureOp_spec hpu) ⟨rfl, rfl⟩ : AOne P o s.T h' _ _).congr ha.evo, fun e => (by rw [← hw'] at e; cases e)⟩
                | true =>
                  rw [hrd] at h
                  simp only [cond_true] at h
                  have hs' : SL (pureFn (eeOf P ng mt pr orc)) (eeOf P ng mt pr orc).ty ops (⟨i, o, s.tm, v⟩ :: L) l s.h := fun e he hn => by
                    cases he with
                    | head => exact hop
                    | tail _ he => exact hs e he hn
                  have dn := ih.plan ops m _ p' (⟨i, o, s.tm, v⟩ :: L) ⟨putS s.tm o.dst v, s.hp, s.nx⟩ k kp hok hp' (fun e he => by
                    cases he with
                    | head => exact hof
                    | tail _ he => exact hL e he) (hc.add hi) (hS2 _ l s.h hs') h
                  rw [hT] at dn
                  refine DAny.mono (S := SL (pureFn (eeOf P ng mt pr orc)) (eeOf P ng mt pr orc).ty ops (⟨i, o, s.tm, v⟩ :: L)) (fun l' h' q e he => q e (List.mem_cons_of_mem _ he)) _ ?_
                  refine DAny.first (v := v) (T0 := s.T) ho (hS1 _) (hS2 _) ?_ m l s.T s.h (Region.free_spec ho hfree) hi hc agree.refl hs' dn
                  intro l' T h' q hcl hrl ha
                  have hw' := ha.want
                  rw [show wantA ops.toList s.T o = true from hw] at hw'
                  have hri := (mem_ready.1 hrl).1
                  have hrun := q ⟨i, o, s.tm, v⟩ List.mem_cons_self fun j oj hj hjf hd => by
                    cases hlj : l'.getD j false with
                    | false => rfl
                    | true =>
                      have := depB_closed hcl _ _ _ hd hlj
                      simp only [Array.getD_eq_getD_getElem?] at this hri
                      cases hx : l'[i]? with
                      | none => rw [hx] at this; cases this
                      | some b => rw [hx] at this hri; simp only [Option.getD_some] at this hri; rw [this] at hri; cases hri
                  exact ⟨fun _ => (AOne.op (E := (eeOf P ng mt pr orc).ty) envOK (v := v) (e := .keep) (by rw [← hrun]; exact readOp_spec hrd) ⟨rfl, rfl⟩ : AOne P o s.T h' _ _).congr ha.evo, fun e => (by rw [← hw'] at e; cases e)⟩
              · split at h
                · rename_i c hoc
                  split at h
                  · rename_i g hcc
                    split at h
                    · rename_i v hpc
                      have dn := ih.plan ops m _ p' L ⟨putS s.tm o.dst v, s.hp, s.nx⟩ k kp hok hp' hL (hc.add hi) (hS2 L l s.h hs) h
                      have hT : St.T ⟨putS s.tm o.dst v, s.hp, s.nx⟩ = putT s.T o.dst v := putS_eq hlt
                      rw [hT] at dn
                      refine DAny.first (v := v) (T0 := s.T) ho (hS1 L) (hS2 L) ?_ m l s.T s.h (Region.free_spec ho hfree) hi hc agree.refl hs dn
                      intro l' T h' _ _ _ ha
                      have hw' := ha.want
                      rw [show wantA ops.toList s.T o = true from hw] at hw'
                      obtain ⟨q1, q2⟩ := pureCall_sound hng hpc h'
                      refine ⟨fun _ => (AOne.call (x := #[]) (y := #[]) hoc hcc rfl q1 ?_ : AOne P o s.T h' _ _).congr ha.evo, fun e => (by rw [← hw'] at e; cases e)⟩
                      have hnil : (#[] : Array Value).toList ++ (evL s.T c.args.toList ++ (#[] : Array Value).toList) = evL s.T c.args.toList := by simp
                      rw [hnil]
                      refine q2.mono ?_
                      rintro e h2 ⟨rfl, rfl⟩
                      exact ⟨rfl, rfl⟩
                    · cases h
                  · cases h
                · cases h
          · cases hp
      · rename_i hfl
        split at hp
        · rename_i o ho
          split at hp
          · rename_i p' hp'
            cases hp
            obtain ⟨hko, hlt⟩ := hok r o ho
            have hi : r ∈ Region.ready .any ops l := by rw [hr]; exact List.mem_cons_self
            have hnf := findFl_none hfl r List.mem_cons_self o ho
            have hil : l.getD r true = false := (mem_ready.1 hi).1
            have hilt : r < l.size := by
              rcases Nat.lt_or_ge r l.size with h' | h'
              · exact h'
              · simp [Array.getElem?_eq_none h'] at hil
            have hlr : (l.setIfInBounds r true).getD r false = true := by simp [hilt]
            -- behind the effect
            have key : ∀ (L' : List LE) (h' : Hp), (∀ e ∈ L, memN e.i (depsOf ops r) = false → e ∈ L') → (∀ e ∈ L', opA (eeOf P ng mt pr orc).ty (tmv e.tm) h'.get 0 e.o.op = some (e.v, .keep)) → SL (pureFn (eeOf P ng mt pr orc)) (eeOf P ng mt pr orc).ty ops L (l.setIfInBounds r true) h' := by
              intro L' h' k1 k2 e he hn
              cases hm : memN e.i (depsOf ops r) with
              | false => exact k2 e (k1 e he hm)
              | true =>
                have := hn r o ho hnf (depsOf_spec hm)
                rw [hlr] at this
                cases this
            have down : ∀ (L' : List LE) (T : Nat → Value) (h' : Hp), (∀ e ∈ L, memN e.i (depsOf ops r) = false → e ∈ L') → DAny P ops (QK k kp) (QPk kp) (SL (pureFn (eeOf P ng mt pr orc)) (eeOf P ng mt pr orc).ty ops L') m (l.setIfInBounds r true) T h' →
                DAny P ops (QK k kp) (QPk kp) (SL (pureFn (eeOf P ng mt pr orc)) (eeOf P ng mt pr orc).ty ops L) m (l.setIfInBounds r true) T h' := by
              intro L' T h' k1 d
              refine DAny.monoAt (j := r) ?_ m hlr d
              intro l2 h2 hl2 q e he hn
              cases hm : memN e.i (depsOf ops r) with
              | false => exact q e (k1 e he hm) hn
              | true =>
                have := hn r o ho hnf (depsOf_spec hm)
                rw [hl2] at this
                cases this
            unfold evPlan at h
            simp only [opF_eq] at h
            refine DAny.only hr ho (fun hw => ?_) (fun hw => ?_)
            · rw [show wantA ops.toList (tmv s.tm) o = true from hw] at h
              simp only [cond_true] at h
              split at h
              · rename_i v e hop
                cases hrm : roomT e s.nx with
                | false => rw [hrm] at h; cases h
                | true =>
                  rw [hrm] at h
                  simp only [cond_true] at h
                  split at h
                  · rename_i L' hL'
                    obtain ⟨k1, k2⟩ := recheck_spec hL' hL
                    have hh : St.h ⟨putS s.tm o.dst v, (appT e s.hp s.nx).1, (appT e s.hp s.nx).2⟩ = e.app s.h.next s.h := appT_eq hrm
                    have hT : St.T ⟨putS s.tm o.dst v, (appT e s.hp s.nx).1, (appT e s.hp s.nx).2⟩ = putT s.T o.dst v := putS_eq hlt
                    have k2' : ∀ e' ∈ L', opA (eeOf P ng mt pr orc).ty (tmv e'.tm) (e.app s.h.next s.h).get 0 e'.o.op = some (e'.v, .keep) := fun e' he' => by rw [← hh]; exact (k2 e' he').2
                    have dn := ih.plan ops m _ p' L' ⟨putS s.tm o.dst v, (appT e s.hp s.nx).1, (appT e s.hp s.nx).2⟩ k kp hok hp' (fun e' he' => hL e' (k2 e' he').1) (hc.add hi) (by rw [hh]; exact fun e' he' _ => k2' e' he') h
                    rw [hT, hh] at dn
                    exact AOne.op (E := (eeOf P ng mt pr orc).ty) envOK (h := s.h) hop ⟨key L' _ k1 k2', down L' _ _ k1 dn⟩
                  · cases h
              · split at h
                · rename_i c hop
                  split at h
                  · rename_i f hcf
                    split at h
                    · rename_i g x y hf
                      split at h
                      · rename_i v e hpe
                        obtain ⟨hg, hcall⟩ := hpr _ _ s.h _ _ hpe
                        cases hrm : roomT e s.nx with
                        | false => rw [hrm] at h; cases h
                        | true =>
                        rw [hrm] at h
                        simp only [cond_true] at h
                        refine AOne.call hop hcf hf hg (hcall.mono ?_)
                        rintro r' h' ⟨rfl, rfl⟩
                        split at h
                        · rename_i L' hL'
                          obtain ⟨k1, k2⟩ := recheck_spec hL' hL
                          have hh : St.h ⟨putS s.tm o.dst v, (appT e s.hp s.nx).1, (appT e s.hp s.nx).2⟩ = e.app s.h.next s.h := appT_eq hrm
                          have hT : St.T ⟨putS s.tm o.dst v, (appT e s.hp s.nx).1, (appT e s.hp s.nx).2⟩ = putT s.T o.dst v := putS_eq hlt
                          have k2' : ∀ e' ∈ L', opA (eeOf P ng mt pr orc).ty (tmv e'.tm) (e.app s.h.next s.h).get 0 e'.o.op = some (e'.v, .keep) := fun e' he' => by rw [← hh]; exact (k2 e' he').2
                          have dn := ih.plan ops m _ p' L' ⟨putS s.tm o.dst v, (appT e s.hp s.nx).1, (appT e s.hp s.nx).2⟩ k kp hok hp' (fun e' he' => hL e' (k2 e' he').1) (hc.add hi) (by rw [hh]; exact fun e' he' _ => k2' e' he') h
                          rw [hT, hh] at dn
                          exact ⟨key L' _ k1 k2', down L' _ _ k1 dn⟩
                        · cases h
                      have hcall := ih.call _ _ _ _ _ _ h
                      refine AOne.call hop hcf hf (call_enters h) (hcall.mono ?_)
                      rintro e h' ⟨hp2, nx2, rfl, q⟩
                      cases e with
                      | ret v =>
                        simp only at q
                        split at q
                        · rename_i L' hL'
                          obtain ⟨k1, k2⟩ := recheck_spec hL' hL
                          have hT : St.T ⟨putS s.tm o.dst v, hp2, nx2⟩ = putT s.T o.dst v := putS_eq hlt
                          have dn := ih.plan ops m _ p' L' ⟨putS s.tm o.dst v, hp2, nx2⟩ k kp hok hp' (fun e' he' => hL e' (k2 e' he').1) (hc.add hi) (fun e' he' _ => (k2 e' he').2) q
                          rw [hT] at dn
                          exact ⟨key L' _ k1 (fun e' he' => (k2 e' he').2), down L' _ _ k1 dn⟩
                        · cases q
                      | panic v => obtain ⟨_, q⟩ := q; exact ⟨hp2, nx2, rfl, q⟩
                    · cases h
                  · cases h
                · rename_i x hop
                  split at h
                  · rename_i t v hx
                    exact AOne.panic hop hx ⟨s.hp, s.nx, rfl, h⟩
                  · cases h
                · cases h
            · rw [show wantA ops.toList (tmv s.tm) o = false from hw] at h
              simp only [cond_false] at h
              cases hk : gK ops.toList (tmv s.tm) o with
              | false => rw [hk] at h; cases h
              | true =>
              rw [hk] at h
              simp only [cond_true] at h
              have hs2 : SL (pureFn (eeOf P ng mt pr orc)) (eeOf P ng mt pr orc).ty ops L (l.setIfInBounds r true) s.h := fun e he hn => hs e he fun j oj hj hjf hd => by
                cases hlj : l.getD j false with
                | false => rfl
                | true => have := getD_set_true (i := r) hlj; rw [hn j oj hj hjf hd] at this; cases this
              have dn := ih.plan ops m _ p' L ⟨putS s.tm o.dst undef, s.hp, s.nx⟩ k kp hok hp' hL (hc.add hi) hs2 h
              have hT : St.T ⟨putS s.tm o.dst undef, s.hp, s.nx⟩ = putT s.T o.dst undef := putS_eq hlt
              rw [hT] at dn
              exact ⟨hk, hs2, dn⟩
          · cases hp
        · cases hp
variable (hm : P.follows .mixedOrders = true)
include hm
omit hmt hpr horc in
theorem Sound.code_succ {n : Nat} (ih : Sound P ng mt pr orc n) : ∀ N N' c s k kp, okCode ng N c = true → N < 4000 → N ≤ N' → ev (eeOf P ng mt pr orc) (n + 1) c s k kp = true → AWp P N' c (QK k kp) s.T s.h := by
  intro N N' c s k kp hok hN hN' h
  cases c with
  | skip => unfold ev at h; exact AWp.skip ⟨s, rfl, rfl, h⟩
  | label l => unfold ev at h; exact AWp.label ⟨s, rfl, rfl, h⟩
  | ret => unfold ev at h; exact AWp.ret ⟨s, rfl, rfl, h⟩
  | exit i => unfold ev at h; exact AWp.exit ⟨s, rfl, rfl, h⟩
  | goto i => unfold ev at h; exact AWp.goto ⟨s, rfl, rfl, h⟩
  | seq a b =>
    unfold ev at h
    unfold okCode at hok
    cases ha : okCode ng N a with
    | false => rw [ha] at hok; cases hok
    | true =>
      rw [ha] at hok
      refine AWp.seq ((ih.code N N' a _ _ _ ha hN hN' h).mono ?_)
      rintro e T h' ⟨s', rfl, q⟩
      cases e with
      | normal =>
        obtain ⟨rfl, q⟩ := q
        exact ih.code N N' b s' k kp hok hN hN' q
      | goto l => exact ⟨s', rfl, q⟩
      | exit i => exact ⟨s', rfl, q⟩
      | ret => exact ⟨s', rfl, q⟩
      | panic v => exact ⟨s', rfl, q⟩
  | cond x a b =>
    unfold ev at h
    unfold okCode at hok
    cases hx : okO ng x with
    | false => rw [hx] at hok; cases hok
    | true =>
      rw [hx] at hok
      simp only [cond_true] at hok
      cases ha : okCode ng N a with
      | false => rw [ha] at hok; cases hok
      | true =>
        rw [ha] at hok
        simp only at h
        split at h
        · rename_i t ht
          refine AWp.cond hng hx ht ?_
          cases t with
          | true => exact ih.code N N' a s k kp ha hN hN' h
          | false => exact ih.code N N' b s k kp hok hN hN' h
        · cases h
  | block i b =>
    unfold ev at h
    refine AWp.block ((ih.code N N' b _ _ _ hok hN hN' h).mono ?_)
    rintro e T h' ⟨s', rfl, q⟩
    cases e with
    | exit j =>
      obtain ⟨rfl, q⟩ := q
      simp only [blockA]
      simp only at q
      cases hb : Nat.beq j i with
      | true => rw [hb] at q; exact ⟨s', rfl, rfl, q⟩
      | false => rw [hb] at q; exact ⟨s', rfl, rfl, q⟩
    | goto l => exact ⟨s', rfl, q⟩
    | normal => exact ⟨s', rfl, q⟩
    | ret => exact ⟨s', rfl, q⟩
    | panic v => exact ⟨s', rfl, q⟩
  | loop b => exact AWp.loop (n + 1) (ih.loop_succ N N' b s k kp hok hN hN' h)
  | scope b =>
    unfold ev at h
    exact AWp.scope n (ih.scope N N' b b s k kp hok hok hN hN' h)
  | region id ops d =>
    unfold ev at h
    cases d with
    | true =>
      simp only [cond_true] at h
      split at h
      · rename_i p hp
        have hall : ∀ (l : List Oper), okOps ng N l = true → ∀ o ∈ l, okL ng o.op.operands.toList = true ∧ dstOK N o = true := fun l => by
          induction l with
          | nil => intro _ o ho; cases ho
          | cons x l ihl =>
            intro hx o ho
            obtain ⟨h1, h2, h3⟩ := okOps_cons hx
            cases ho with
            | head => exact ⟨h1, h2⟩
            | tail _ ho => exact ihl h3 o ho
        have hops : ∀ (i : Nat) (o : Oper), ops[i]? = some o → okL ng o.op.operands.toList = true ∧ dstOK N o = true := fun i o ho => hall ops.toList hok o (by simpa using Array.mem_of_getElem? ho)
        refine AWp.draw (QP := QPk kp) hm hng (fun v T h' ⟨hp, nx, e, q⟩ => ⟨⟨.nil, hp, nx⟩, e, .inr q⟩) (fun i o ho => ⟨(hops i o ho).1, dstOK_mono (hops i o ho).2 hN'⟩) (ih.plan ops _ _ p [] s k kp (fun i o ho => ⟨(hops i o ho).1, fun d hd => Nat.lt_trans (dstOK_spec (hops i o ho).2 d hd) hN⟩) hp
          (fun e he => by cases he) ?_ (fun e he => by cases he) h)
        intro i o _ hi
        simp only [Array.getD_eq_getD_getElem?, Array.getElem?_replicate] at hi
        split at hi <;> cases hi
      · cases h
    | false => exact AWp.region (ih.ops N N' ops ops.toList s k kp hok hN hN' h)
  | rangeFunc f ps a b => unfold ev at h; cases h
  | refuse w => unfold ev at h; cases h
theorem sound : ∀ n, Sound P ng mt pr orc n
  | 0 => Sound.zero
  | n + 1 => ⟨(sound n).code_succ hng hm, (sound n).loop_succ, (sound n).scope_succ, (sound n).ops_succ hng hmt hpr horc, (sound n).plan_succ hng hpr, (sound n).call_succ⟩
end
end Go.Ab
/- A call that is known from a small heap, from every heap that holds it. -/
namespace Go.Ab
open Go.RowKit
def noAddr : Value → Bool
  | .tuple ⟨l⟩ => flats l
  | .agg ⟨l⟩ => flats l
  | v => flat v
theorem flat.any {ρ ρ' : Ren} {v c : Value} (h : flat v = true) (hv : VR ρ v c) : VR ρ' v c := by
  cases v with
  | int k n => exact hv
  | bool b => exact hv
  | string s => exact hv
  | float k b => exact hv
  | complex k a b => exact hv
  | pointer a => cases a with | none => exact hv | some a => cases h
  | slice a n c => cases a with | none => exact hv | some a => cases h
  | map r => cases r with | none => exact hv | some a => cases h
  | nilFunc => exact hv
  | nilIface => exact hv
  | chan r => cases r with | none => exact hv | some a => cases h
  | func f x y => cases h
  | iface t v => cases h
  | agg cs => cases h
  | tuple cs => cases h
theorem flats.any {ρ ρ' : Ren} : ∀ {l c : List Value}, flats l = true → VRL ρ l c → VRL ρ' l c
  | [], _, _, hv => hv
  | v :: l, c, h, hv => by
    obtain ⟨v', l', rfl, h1, h2⟩ := hv
    unfold flats at h
    cases hf : flat v with
    | false => rw [hf] at h; cases h
    | true => rw [hf] at h; exact ⟨v', l', rfl, flat.any hf h1, flats.any h h2⟩
theorem noAddr.any {ρ ρ' : Ren} {v c : Value} (h : noAddr v = true) (hv : VR ρ v c) : VR ρ' v c := by
  unfold noAddr at h
  split at h
  · obtain ⟨c', h1, h2⟩ := hv; exact ⟨c', h1, flats.any h h2⟩
  · obtain ⟨c', h1, h2⟩ := hv; exact ⟨c', h1, flats.any h h2⟩
  · exact flat.any h hv
def noAddrs : List Value → Bool
  | [] => true
  | v :: l => noAddr v && noAddrs l
theorem noAddrs.any {ρ ρ' : Ren} : ∀ {l c : List Value}, noAddrs l = true → VRL ρ l c → VRL ρ' l c
  | [], _, _, hv => hv
  | v :: l, c, h, hv => by
    obtain ⟨v', l', rfl, h1, h2⟩ := hv
    simp only [noAddrs, Bool.and_eq_true] at h
    exact ⟨v', l', rfl, noAddr.any h.1 h1, noAddrs.any h.2 h2⟩
/-- a small heap: nothing in it is written -/
structure Base (P : Program) (b : Hp) : Prop where
  lt : ∀ i, b.get i ≠ none → i < b.next
  ro : ∀ i o, b.get i = some o → o = .dead ∨ ∃ c e, o = .cells c true e ∧ ∀ (j : Nat) (v : Value), c[j]? = some v → noAddr v = true ∨ ∃ a n k, v = .slice (some a) n k ∧ b.get a.block ≠ none
  glob : ∀ g, g < P.globals.size → b.get g ≠ none
/-- a heap that holds a small one -/
def Holds (h b : Hp) : Prop := ∀ i o, b.get i = some o → h.get i ≠ none ∧ (o = .dead ∨ h.get i = some o)
theorem lift {P : Program} {b : Hp} (hb : Base P b) {f : FuncId} {args : List Value} {v : Value} (ha : noAddrs args = true) (hv : noAddr v = true) (p : ACalls P f args (fun e _ => e = .ret v) b) {h : Hp} (hh : Holds h b) :
    ACalls P f args (fun e h' => e = .ret v ∧ h' = h) h := fun ρ w cs H hvs => by
  let ρb : Ren := fun i => match b.get i with | some _ => ρ i | none => none
  have hρ : ∀ i o, b.get i = some o → ρb i = ρ i := fun i o hi => by simp only [ρb, hi]
  have hle : Ren.le ρb ρ := fun i l hi => by
    cases hg : b.get i with
    | none => simp only [ρb, hg] at hi; cases hi
    | some o => rw [hρ i o hg] at hi; exact hi
  have Hb : HR P ρb b w := by
    refine ⟨hb.lt, fun i l hi => ?_, fun i o hi => ?_, fun i j o o' l l' h1 _ _ hw _ _ _ => ?_, fun g hg => ?_⟩
    · refine ⟨fun hn => ?_, (H.dom i l (hle i l hi)).2⟩
      simp only [ρb, hn] at hi
      cases hi
    · obtain ⟨hne, hor⟩ := hh i o hi
      cases hg : h.get i with
      | none => exact absurd hg hne
      | some o' =>
        obtain ⟨l, h1, h2⟩ := H.live i o' hg
        refine ⟨l, by rw [hρ i o hi]; exact h1, ?_⟩
        rcases hb.ro i o hi with rfl | ⟨c, e, rfl, hc⟩
        · trivial
        · rcases hor with hd | hs
          · cases hd
          · rw [hg] at hs
            cases hs
            obtain ⟨cc, fr, k1, k2, k3, k4, k5⟩ := h2
            refine ⟨cc, fr, k1, k2, k3, k4, fun j v hj => ?_⟩
            obtain ⟨v', m1, m2⟩ := k5 j v hj
            refine ⟨v', m1, ?_⟩
            rcases hc j v hj with hn | ⟨a, n, k, rfl, hbn⟩
            · exact noAddr.any hn m2
            · obtain ⟨l2, q1, q2⟩ := m2
              cases hba : b.get a.block with
              | none => exact absurd hba hbn
              | some oa => exact ⟨l2, by rw [hρ _ _ hba]; exact q1, q2⟩
    · rcases hb.ro i o h1 with rfl | ⟨c, e, rfl, _⟩ <;> cases hw
    · obtain ⟨l, h1, h2⟩ := H.glob g hg
      cases hbg : b.get g with
      | none => exact absurd hbg (hb.glob g hg)
      | some o => exact ⟨l, by rw [hρ _ _ hbg]; exact h1, h2⟩
  refine (p ρb w cs Hb (noAddrs.any ha hvs)).mono ?_
  rintro e w' ⟨e', ρ', h', k1, k2, k3, rfl⟩
  obtain ⟨c, rfl, k5⟩ := k1
  have hblk : ∀ x, x < w.heap.size → w'.heap[x]? = w.heap[x]? := fun x hx => k3.block x hx fun ⟨i, o, l, q1, q2, _, _⟩ => by
    rcases hb.ro i o q1 with rfl | ⟨c, e, rfl, _⟩ <;> cases q2
  have H' : HR P ρ h w' := ⟨H.lt, fun i l hi => ⟨(H.dom i l hi).1, Nat.lt_of_lt_of_le (H.dom i l hi).2 k3.size⟩, fun i o hi => by
    obtain ⟨l, h1, h2⟩ := H.live i o hi
    exact ⟨l, h1, h2.of_block (hblk _ (H.lt_of h1))⟩, H.inj, H.glob⟩
  exact ⟨.ret v, ρ, h, ⟨c, rfl, noAddr.any hv k5⟩, H', ⟨fun _ _ _ h => h, k3.os, k3.tape, k3.output, k3.size, Nat.min_le_right _ _, fun x hx _ => hblk x hx, fun _ _ h => h, fun _ _ h => h, fun _ _ h => h⟩, rfl, rfl⟩
end Go.Ab
/- Functions that defer one call of a closure that recovers. -/
namespace Go.Ab
open Go.RowKit
abbrev ADef := FuncId × List Value
def DR1 (ρ : Ren) (d : ADef) (c : Deferred) : Prop := ∃ cap, c.target = .fn (.func d.1) cap ∧ VRL ρ d.2 (c.args ++ cap).toList
def DRL (ρ : Ren) : List ADef → List Deferred → Prop
  | [], l => l = []
  | d :: ds, l => ∃ c cs, l = c :: cs ∧ DR1 ρ d c ∧ DRL ρ ds cs
theorem DRL.mono {ρ ρ' : Ren} (h : Ren.le ρ ρ') : ∀ {D : List ADef} {l : List Deferred}, DRL ρ D l → DRL ρ' D l
  | [], _, k => k
  | d :: ds, l, k => by
    obtain ⟨c, cs, rfl, ⟨cap, k1, k2⟩, k3⟩ := k
    exact ⟨c, cs, rfl, ⟨cap, k1, VRL.mono h _ _ k2⟩, DRL.mono h k3⟩
abbrev XPost := AEx → (Nat → Value) → Hp → List ADef → Prop
def PostX (P : Program) (ρ : Ren) (h : Hp) (w : World) (N : Nat) (Q : XPost) : Exit → Act → World → Prop := fun e a' w' =>
  ∃ e' ρ' T' h' D', ExR ρ' e' e ∧ HR P ρ' h' w' ∧ Fr h.next ρ h w ρ' h' w' ∧ TR ρ' T' N a' ∧ DRL ρ' D' a'.defers ∧ Q e' T' h' D'
def AWpX (P : Program) (N : Nat) (c : Code) (Q : XPost) (T : Nat → Value) (h : Hp) (D : List ADef) : Prop :=
  ∀ ρ w a, HR P ρ h w → TR ρ T N a → DRL ρ D a.defers → c.wp P (PostX P ρ h w N Q) a w
section
variable {P : Program} {N : Nat} {Q : XPost} {T : Nat → Value} {h : Hp} {D : List ADef}
theorem PostX.trans {ρ ρ1 : Ren} {h1 : Hp} {w w1 : World} {e : Exit} {a' : Act} {w' : World} (F : Fr h.next ρ h w ρ1 h1 w1) (p : PostX P ρ1 h1 w1 N Q e a' w') : PostX P ρ h w N Q e a' w' := by
  obtain ⟨e', ρ', T', h', D', p1, p2, p3, p4, p5, p6⟩ := p
  exact ⟨e', ρ', T', h', D', p1, p2, F.trans p3 F.next, p4, p5, p6⟩
theorem AWpX.mono {Q' : XPost} {c : Code} (hq : ∀ e T h D, Q e T h D → Q' e T h D) (p : AWpX P N c Q T h D) : AWpX P N c Q' T h D := fun ρ w a H ht hd =>
  wp_mono (p ρ w a H ht hd) fun _ _ _ ⟨e', ρ', T', h', D', p1, p2, p3, p4, p5, p6⟩ => ⟨e', ρ', T', h', D', p1, p2, p3, p4, p5, hq _ _ _ _ p6⟩
theorem AWpX.of {c : Code} {Q' : APost} (p : AWp P N c Q' T h) (hq : ∀ e T h, Q' e T h → Q e T h D) : AWpX P N c Q T h D := fun ρ w a H ht hd =>
  wp_mono (wpIn_wide.1 (p none ρ w a H ht)) fun _ a' _ ⟨e', ρ', T', h', p1, p2, p3, p4, p5, p6⟩ => ⟨e', ρ', T', h', D, p1, p2, p3, p4, by rw [p5]; exact hd.mono (p3.ren H), hq _ _ _ p6⟩
theorem AWpX.seq {x y : Code} (p : AWpX P N x (fun e T h D => match e with | .normal => AWpX P N y Q T h D | e => Q e T h D) T h D) : AWpX P N (.seq x y) Q T h D := fun ρ w a H ht hd =>
  wp_seq (wp_mono (p ρ w a H ht hd) fun e a' w' ⟨e', ρ', T', h', D', p1, p2, p3, p4, p5, p6⟩ => by
    cases e' with
    | normal => cases p1; exact wp_mono (p6 _ _ _ p2 p4 p5) fun _ _ _ q => q.trans p3
    | exit n => cases p1; exact ⟨.exit n, ρ', T', h', D', rfl, p2, p3, p4, p5, p6⟩
    | goto n => cases p1; exact ⟨.goto n, ρ', T', h', D', rfl, p2, p3, p4, p5, p6⟩
    | ret => cases p1; exact ⟨.ret, ρ', T', h', D', rfl, p2, p3, p4, p5, p6⟩
    | panic v => obtain ⟨c, rfl, p7⟩ := p1; exact ⟨.panic v, ρ', T', h', D', ⟨c, rfl, p7⟩, p2, p3, p4, p5, p6⟩)
theorem AWpX.ret (q : Q .ret T h D) : AWpX P N .ret Q T h D := fun ρ _ _ H ht hd => wp_ret ⟨.ret, ρ, T, h, D, rfl, H, Fr.refl _ _ _ _, ht, hd, q⟩
/-- a function made and deferred -/
theorem AWpX.defer {ng id : Nat} (hng : ng ≤ P.globals.size) {o1 o2 : Oper} {d : Nat} {g : FuncId} {x : Array Operand} {c : Call} (h1 : o1.op = .makeFunc (.func g) #[] x) (h2 : o1.dst = some d) (h3 : o1.guard = none) (hd : d < N)
    (hok : okL ng x.toList = true) (k1 : o2.op = .defer c) (k2 : c.callee = .value (.tmp d)) (k3 : c.args = #[]) (k4 : o2.dst = none) (k5 : o2.guard = none)
    (q : Q .normal (putT T (some d) (.func (.func g) #[] (evL T x.toList).toArray)) h ((g, evL T x.toList) :: D)) : AWpX P N (.region id #[o1, o2] false) Q T h D := fun ρ w a H ht hdr => by
  refine wp_region_list ?_
  have hargs : VRL ρ (evL T x.toList) (x.toList.map a.eval) := evL_sound fun z hz => evo_sound H hng ht (okL_mem hok z hz)
  have hval : VR ρ (.func (.func g) #[] (evL T x.toList).toArray) (.func (.func g) #[] (x.map a.eval)) := ⟨_, _, rfl, rfl, VRA.iff.2 (by simpa using hargs)⟩
  have ht2 := ht.put (d := some d) (fun i hi => by cases hi; exact hd) hval
  show wpList P #[o1, o2] _ [o1, o2] a w
  unfold wpList
  rw [if_pos (by simp [Region.wanted, h3])]
  refine .inl ?_
  have hr1 : (execOp a.eval o1).run P w = .ok (.value (.func (.func g) #[] (x.map a.eval))) w := by simp [execOp, h1, Instr.makeFunc]
  unfold Oper.wp
  rw [hr1, Oper.upon_value, h2]
  unfold wpList
  rw [if_pos (by simp [Region.wanted, k5])]
  refine .inl ?_
  have hev : (a.put (some d) (.func (.func g) #[] (x.map a.eval))).eval (.tmp d) = .func (.func g) #[] (x.map a.eval) := by
    have hlt : d < a.tmps.size := by rw [ht.1]; exact hd
    simp [Act.eval, Act.put, hlt]
  have hr2 : (execOp (a.put (some d) (.func (.func g) #[] (x.map a.eval))).eval o2).run P w = .ok (.defer { target := .fn (.func g) (x.map a.eval), args := #[] }) w := by
    simp [execOp, k1, resolve, k2, k3, hev, Deferred.ofValue]
  unfold Oper.wp
  rw [hr2, Oper.upon_defer, k4]
  unfold wpList
  refine ⟨.normal, ρ, _, h, _, rfl, H, Fr.refl _ _ _ _, ht2, ?_, q⟩
  exact ⟨_, _, rfl, ⟨_, rfl, by simpa using hargs⟩, hdr⟩
/-- a deferred closure that asks for the panic's value (pv: it, or none) and returns; a panic is over behind it -/
def ARec (P : Program) (g : FuncId) (args : List Value) (pv : Option Value) (R : Hp → Prop) (h : Hp) : Prop :=
  ∀ ρ w cs u, HR P ρ h w → VRL ρ args cs.toList → (match pv with | none => u = .returning | some v => ∃ c, VR ρ v c ∧ u = .panicking [{ v := c, recovered := false }]) →
    CallsD P g cs u w fun e u' w' => ∃ ρ' h', HR P ρ' h' w' ∧ Fr h.next ρ h w ρ' h' w' ∧ (∃ c, e = .returned c) ∧ settle u' = .returning ∧ R h'
/-- where the closure begins with 'r := recover()' -/
theorem ARec.body {g : FuncId} {fn : Func} {id : Nat} {o1 o2 : Oper} {d1 d2 : Nat} {rest : Code} {args : List Value} {pv : Option Value} {R : Hp → Prop} (hf : P.funcs[g]? = some fn)
    (hb : fn.body = some (.seq (.region id #[o1, o2] false) rest)) {c : Call} (k1 : o1.op = .call c) (k2 : c.callee = .builtin .recover) (k3 : c.args = #[]) (k4 : o1.dst = some d1) (k5 : o1.guard = none)
    (j1 : o2.op = .assign (.tmp d1)) (j2 : o2.dst = some d2) (j3 : o2.guard = none) (l1 : d1 < max args.length fn.ntmps) (l2 : d2 < max args.length fn.ntmps) (hres : fn.results = #[])
    (p : AWp P (max args.length fn.ntmps) rest (fun e _ h' => (e = .normal ∨ e = .ret) ∧ R h') (putT (putT (argT args) (some d1) (pv.getD .nilIface)) (some d2) (pv.getD .nilIface)) h) : ARec P g args pv R h := by
  intro ρ w cs u H hv hu
  refine callsD_of_wpS hf hb fun c₀ cs' hc₀ => ?_
  have ht := argT_TR fn.ntmps hv
  -- what recover hands out, and how the panicking frame stands then
  have hrec : ∃ cv u', VR ρ (pv.getD .nilIface) cv ∧ settle u' = .returning ∧ (match recoverD (c₀ :: cs') with | some (v, x) => v = cv ∧ x = { c₀ with mode := u' } :: cs' | none => cv = .nilIface ∧ { c₀ with mode := u' } = c₀) := by
    cases pv with
    | none =>
      simp only at hu
      refine ⟨.nilIface, .returning, rfl, rfl, ?_⟩
      have : recoverD (c₀ :: cs') = none := by simp [recoverD, hc₀, hu]
      rw [this]
      refine ⟨rfl, ?_⟩
      rw [hu] at hc₀
      cases c₀
      simp only at hc₀
      rw [hc₀]
    | some v =>
      obtain ⟨cv, h1, h2⟩ := hu
      refine ⟨cv, .panicking [{ v := cv, recovered := true }], h1, rfl, ?_⟩
      have : recoverD (c₀ :: cs') = some (cv, { c₀ with mode := .panicking [{ v := cv, recovered := true }] } :: cs') := by simp [recoverD, hc₀, h2]
      rw [this]
      exact ⟨rfl, rfl⟩
  obtain ⟨cv, u', r1, r2, r3⟩ := hrec
  refine wpS_seq (wpS_region ?_)
  let a0 : Act := { tmps := cs ++ Array.replicate (fn.ntmps - cs.size) Go.undef, defers := [] }
  have hr1 : (execOp a0.eval o1).run P w = .ok .recover w := by simp [execOp, k1, resolve, k2, k3, Go.invoke, builtin]
  have ht1 : TR ρ (putT (argT args) (some d1) (pv.getD .nilIface)) (max args.length fn.ntmps) (a0.put (some d1) cv) := ht.put (fun i hi => by cases hi; exact l1) r1
  have hev : (a0.put (some d1) cv).eval (.tmp d1) = cv := by
    have hlt : d1 < a0.tmps.size := by rw [ht.1]; exact l1
    simp [Act.eval, Act.put, hlt]
  have hr2 : (execOp (a0.put (some d1) cv).eval o2).run P w = .ok (.value cv) w := by simp [execOp, j1, hev]
  have ht2 : TR ρ (putT (putT (argT args) (some d1) (pv.getD .nilIface)) (some d2) (pv.getD .nilIface)) (max args.length fn.ntmps) ((a0.put (some d1) cv).put (some d2) cv) := ht1.put (fun i hi => by cases hi; exact l2) r1
  have fin : ∀ x, x = { c₀ with mode := u' } :: cs' → rest.wpS P (bodyPostS P fn c₀ cs' fun e u' w' => ∃ ρ' h', HR P ρ' h' w' ∧ Fr h.next ρ h w ρ' h' w' ∧ (∃ c, e = .returned c) ∧ settle u' = .returning ∧ R h') ((a0.put (some d1) cv).put (some d2) cv) x w := by
    rintro x rfl
    refine wpS_of_wp (wp_mono (wpIn_wide.1 (p none ρ w _ H ht2)) ?_)
    rintro e a' w' ⟨e', ρ', T', h', p1, p2, p3, p4, p5, p6, p7⟩
    have hres' : (results fn a'.tmps).run P w' = .ok (.tuple #[]) w' := results_none hres _ P w'
    have hd : a'.defers = [] := by rw [p5]; rfl
    rcases p6 with rfl | rfl
    · cases p1
      exact ⟨hd, u', rfl, _, hres', ρ', h', p2, p3, ⟨_, rfl⟩, r2, p7⟩
    · cases p1
      exact ⟨hd, u', rfl, _, hres', ρ', h', p2, p3, ⟨_, rfl⟩, r2, p7⟩
  show wpOpsS P #[o1, o2] _ [0, 1] a0 (c₀ :: cs') w
  simp only [wpOpsS, List.getElem?_toArray, List.getElem?_cons_zero, List.getElem?_cons_succ]
  rw [if_pos (by simp [Region.wanted, k5]), hr1]
  simp only
  cases hrd : recoverD (c₀ :: cs') with
  | none =>
    rw [hrd] at r3
    obtain ⟨rfl, r4⟩ := r3
    simp only
    rw [if_pos (by simp [Region.wanted, j3]), k4, hr2]
    simp only [Oper.upon, j2]
    exact fin _ (by rw [r4])
  | some q =>
    obtain ⟨v, x⟩ := q
    rw [hrd] at r3
    obtain ⟨rfl, rfl⟩ := r3
    simp only
    rw [if_pos (by simp [Region.wanted, j3]), k4, hr2]
    simp only [Oper.upon, j2]
    exact fin _ rfl
theorem CallsD.mono' {f : FuncId} {args : Array Value} {u : FrameMode} {w : World} {R R' : Ending → FrameMode → World → Prop} (hr : ∀ e u w, R e u w → R' e u w) (h : CallsD P f args u w R) : CallsD P f args u w R' :=
  fun c cs hc => let ⟨e, u', w', fr, r, rest⟩ := h c cs hc; ⟨e, u', w', fr, hr _ _ _ r, rest⟩
/-- how a body is left that has deferred at most one call -/
def bodyX (P : Program) (E : Nat → Option TI) (fn : Func) (Q : AEnd → Hp → Prop) : XPost := fun e T h D =>
  match D with
  | [] => bodyA E fn Q e T h
  | [(g, args)] =>
    (match e with
    | .normal | .ret => Enters P g ∧ ARec P g args none (fun h' => ∃ r, resL E T h'.get fn.results.toList = some r ∧ Q (.ret (oneV r)) h') h
    | .panic v => Enters P g ∧ ARec P g args (some v) (fun h' => ∃ r, resL E T h'.get fn.results.toList = some r ∧ Q (.ret (oneV r)) h') h
    | _ => False)
  | _ => False
theorem ACalls.deferred {E : Nat → Option TI} (hE : EnvOK P E) {f : FuncId} {fn : Func} {c : Code} {args : List Value} {Q : AEnd → Hp → Prop} (hf : P.funcs[f]? = some fn) (hb : fn.body = some c)
    (p : AWpX P (max args.length fn.ntmps) c (bodyX P E fn Q) (argT args) h []) : ACalls P f args Q h := fun ρ w cs H hv => by
  refine calls_of_wp_defers hf hb (wp_mono (p ρ w _ H (argT_TR fn.ntmps hv) rfl) ?_)
  rintro e a' w' ⟨e', ρ', T', h', D', p1, p2, p3, p4, p5, p6⟩
  match D', p5, p6 with
  | [], p5, p6 =>
    have hd : a'.defers = [] := p5
    cases e' with
    | normal =>
      cases p1
      obtain ⟨r, k1, k2⟩ := p6
      obtain ⟨v, k3, k4⟩ := results_sound hE p2 p4 k1
      show Leaves P fn a'.tmps _ a'.defers .returning w'
      rw [hd]
      exact ⟨v, k3, .ret (oneV r), ρ', h', ⟨v, rfl, k4⟩, p2, p3, k2⟩
    | ret =>
      cases p1
      obtain ⟨r, k1, k2⟩ := p6
      obtain ⟨v, k3, k4⟩ := results_sound hE p2 p4 k1
      show Leaves P fn a'.tmps _ a'.defers .returning w'
      rw [hd]
      exact ⟨v, k3, .ret (oneV r), ρ', h', ⟨v, rfl, k4⟩, p2, p3, k2⟩
    | panic v =>
      obtain ⟨cv, rfl, k1⟩ := p1
      show Leaves P fn a'.tmps _ a'.defers (.panicking _) w'
      rw [hd]
      exact ⟨.panic v, ρ', h', ⟨cv, rfl, k1⟩, p2, p3, p6⟩
    | exit n => exact p6.elim
    | goto l => exact p6.elim
  | [(g, gargs)], p5, p6 =>
    obtain ⟨d, ds, hd, ⟨cap, q1, q2⟩, hds⟩ := p5
    have hds' : ds = [] := hds
    subst hds'
    have go : ∀ (u : FrameMode) (pv : Option Value), u ≠ .run → Enters P g → (match pv with | none => u = .returning | some v => ∃ c, VR ρ' v c ∧ u = .panicking [{ v := c, recovered := false }]) →
        ARec P g gargs pv (fun h' => ∃ r, resL E T' h'.get fn.results.toList = some r ∧ Q (.ret (oneV r)) h') h' →
        Leaves P fn a'.tmps (fun e w' => ∃ e' ρ' h', EndR ρ' e' e ∧ HR P ρ' h' w' ∧ Fr h.next ρ h w ρ' h' w' ∧ Q e' h') a'.defers u w' := by
      intro u pv hu hen hm har
      rw [hd]
      refine ⟨hu, .func g, cap, g, d.args ++ cap, q1, ?_, ?_⟩
      · rw [q1]; simp only [Go.invoke]; exact hen _ _
      · refine CallsD.mono' ?_ (har ρ' w' _ u p2 q2 hm)
        rintro e u' w'' ⟨ρ2, h2, m1, m2, ⟨cv, rfl⟩, m3, r, m4, m5⟩
        obtain ⟨v, k3, k4⟩ := results_sound hE m1 (p4.mono (m2.ren p2)) m4
        show Leaves P fn a'.tmps _ [] (settle u') w''
        rw [m3]
        exact ⟨v, k3, .ret (oneV r), ρ2, h2, ⟨v, rfl, k4⟩, m1, p3.trans m2 p3.next, m5⟩
    cases e' with
    | normal => cases p1; exact go .returning none (by simp) p6.1 rfl p6.2
    | ret => cases p1; exact go .returning none (by simp) p6.1 rfl p6.2
    | panic v =>
      obtain ⟨cv, rfl, k1⟩ := p1
      exact go _ (some v) (by simp) p6.1 ⟨cv, k1, rfl⟩ p6.2
    | exit n => exact p6.elim
    | goto l => exact p6.elim
  | _ :: _ :: _, _, p6 => exact p6.elim
end
end Go.Ab
