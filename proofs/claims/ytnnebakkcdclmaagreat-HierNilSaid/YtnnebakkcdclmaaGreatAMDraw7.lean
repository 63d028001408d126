/-
  Proved here, for every program: a part of the soundness of an abstract machine against the model: lemmas. Conditions: none.
-/
import Derived.Test.YtnnebakkcdclmaaGreatAMDraw6
namespace Go.Proofs.YtnnebakkcdclmaaGreat.AM

def rdyOf (ops : List Oper) (done : List Nat) : List Nat :=
  (List.range ops.length).filter fun i => !done.contains i && ((ops[i]?).map fun o => o.after.toList.all fun e => !Region.binds .any e || done.contains e.on).getD false

theorem planGo_inv {ops : List Oper} {an : List Nat} {I : List Nat → Prop} (hstep : ∀ done i, i ∈ rdyOf ops done → I done → I (done ++ [i])) : ∀ (n : Nat) (done : List Nat), I done → I (planGo ops an n done)
  | 0, done, h => h
  | n + 1, done, h => by
    have hfst : ∀ (p : Nat → Bool) i is, (rdyOf ops done).filter p = i :: is → i ∈ rdyOf ops done := fun p i is he => (List.mem_filter.1 (he ▸ List.mem_cons_self : i ∈ (rdyOf ops done).filter p)).1
    simp only [planGo]
    split
    · rename_i i is he
      exact planGo_inv hstep n _ (hstep done i (hfst _ _ _ he) h)
    · split
      · rename_i i is he
        exact planGo_inv hstep n _ (hstep done i (hfst _ _ _ he) h)
      · split
        · rename_i i is he
          exact planGo_inv hstep n _ (hstep done i (hfst _ _ _ he) h)
        · split
          · rename_i i is he
            exact planGo_inv hstep n _ (hstep done i (by unfold rdyOf; rw [he]; exact List.mem_cons_self) h)
          · exact h

/-- Edges come from within. -/
theorem plan_edge {nt : Nat} {ops : List Oper} (hd : Plan nt ops (plan ops)) {i : Nat} {o : Oper} (hi : ops[i]? = some o) : ∀ e ∈ o.after.toList, Region.binds .any e = true → e.on < ops.length := by
  intro e he hb
  have key := planGo_inv (ops := ops) (an := anc ops) (I := fun done => ∀ i ∈ done, ∀ o, ops[i]? = some o → ∀ e ∈ o.after.toList, Region.binds .any e = true → e.on ∈ done) ?_ ops.length [] (by simp)
  · exact hd.lt _ (key i (hd.all i (List.getElem?_eq_some_iff.1 hi).1) o hi e he hb)
  · intro done i hr ih j hj o ho e he hb
    rw [List.mem_append] at hj ⊢
    rcases hj with hj | hj
    · exact .inl (ih j hj o ho e he hb)
    · simp at hj; subst hj
      unfold rdyOf at hr
      rw [List.mem_filter] at hr
      have h2 := hr.2
      rw [ho] at h2
      simp only [Option.map_some, Option.getD_some, Bool.and_eq_true, List.all_eq_true] at h2
      have h3 := h2.2 e he
      rw [hb] at h3
      simp at h3
      exact .inl h3

section
variable {P : Program} {call : CallT} {nt : Nat} {ops : Array Oper} {pl : List Nat} {Es : Nat → Env} {HS HH : Nat → H} {vs : Nat → V}
variable {φ0 : Phi} {w0 : World}

theorem anc_of_ready {listed : Array Bool} {i : Nat} {o : Oper} (hi : ops.toList[i]? = some o) (hall : ∀ e ∈ o.after, Region.binds .any e = true → listed.getD e.on false = true)
    (hsz : listed.size = ops.size) (hdc : ∀ i j oi, listed.getD i false = true → ops.toList[i]? = some oi → j < ops.toList.length → ((anc ops.toList).getD i 0).testBit j = true → listed.getD j false = true) :
    ∀ j, j < ops.toList.length → ((anc ops.toList).getD i 0).testBit j = true → listed.getD j false = true := by
  intro j hj hb
  obtain ⟨e, he, hbd, h⟩ := (anc_spec hi j).1 hb
  have hle := hall e (by simpa using he) hbd
  rcases h with rfl | ⟨_, h⟩
  · exact hle
  · have hlt : e.on < ops.toList.length := by
      rcases Nat.lt_or_ge e.on listed.size with h' | h'
      · rw [hsz] at h'; simpa using h'
      · simp [Array.getElem?_eq_none h'] at hle
    exact hdc e.on j _ hle (List.getElem?_eq_getElem hlt) hj h

/-- Some operation is ready. -/
theorem ready_some (hd : Plan nt ops.toList (plan ops.toList)) {listed : Array Bool} (hsz : listed.size = ops.size) : ∀ (n i : Nat), i ≤ n → i < ops.size → listed.getD i false = false → ∃ j, j ∈ Region.ready .any ops listed := by
  intro n
  induction n with
  | zero =>
    intro i hin hi hl
    refine ⟨i, mem_ready.2 ⟨?_, ops[i], Array.getElem?_eq_getElem hi, fun e he hb => ?_⟩⟩
    · have h1 : i < listed.size := by omega
      simp only [Array.getD_eq_getD_getElem?, Array.getElem?_eq_getElem h1, Option.getD_some] at hl ⊢
      exact hl
    · have hio : ops.toList[i]? = some ops[i] := by simp
      have hlt := plan_edge hd hio e (by simpa using he) hb
      have hbit := (anc_spec hio e.on).2 ⟨e, by simpa using he, hb, .inl rfl⟩
      have := (hd.before e.on i (by simpa using hi) hlt hbit).1
      omega
  | succ n ih =>
    intro i hin hi hl
    by_cases hx : ∃ e ∈ ops[i].after, Region.binds .any e = true ∧ listed.getD e.on false = false
    · obtain ⟨e, he, hb, hle⟩ := hx
      have hio : ops.toList[i]? = some ops[i] := by simp
      have hlt := plan_edge hd hio e (by simpa using he) hb
      have hbit := (anc_spec hio e.on).2 ⟨e, by simpa using he, hb, .inl rfl⟩
      have := (hd.before e.on i (by simpa using hi) hlt hbit).1
      exact ih e.on (by omega) (by simpa using hlt) hle
    · refine ⟨i, mem_ready.2 ⟨?_, ops[i], Array.getElem?_eq_getElem hi, fun e he hb => ?_⟩⟩
      · have h1 : i < listed.size := by omega
        simp only [Array.getD_eq_getD_getElem?, Array.getElem?_eq_getElem h1, Option.getD_some] at hl ⊢
        exact hl
      · cases h : listed.getD e.on false
        · exact absurd ⟨e, he, hb, h⟩ hx
        · rfl

theorem draw_go (C : Ctx P call nt ops (plan ops.toList) Es HS HH vs) {Q : Exit → Act → World → Prop}
    (hQ : ∀ φ a w, ERel P φ (Es (plan ops.toList).length) a nt → Rel P φ (HH (plan ops.toList).length) w → Keep φ0 (HH 0) w0 φ (HH (plan ops.toList).length) w → Q .normal a w) :
    ∀ (fuel : Nat) (listed : Array Bool) (U : List Nat) (c q : Nat) (φ : Phi) (a : Act) (w : World), listed.size = ops.size → U.length ≤ fuel → (∀ i, i < ops.size → listed.getD i false = false → i ∈ U) →
      Stg P nt ops (plan ops.toList) Es HS HH vs φ0 (HH 0) w0 c q (fun j => listed.getD j false = true) φ a w → wpAny P .any ops Q fuel listed a w := by
  have fin : ∀ (listed : Array Bool) (c q : Nat) (φ : Phi) (a : Act) (w : World), listed.size = ops.size → Region.ready .any ops listed = [] →
      Stg P nt ops (plan ops.toList) Es HS HH vs φ0 (HH 0) w0 c q (fun j => listed.getD j false = true) φ a w → Q .normal a w := by
    intro listed c q φ a w hsz hr S
    obtain ⟨k1, k2, k3⟩ := S.done C fun i hi => by
      cases hl : listed.getD i false with
      | true => rfl
      | false =>
        obtain ⟨j, hj⟩ := ready_some C.hd hsz i i (Nat.le_refl _) (by simpa using hi) hl
        rw [hr] at hj; cases hj
    exact hQ _ _ _ k1 k2 k3
  intro fuel
  induction fuel with
  | zero =>
    intro listed U c q φ a w hsz hU hcov S
    have hr : Region.ready .any ops listed = [] := by
      rw [List.eq_nil_iff_forall_not_mem]
      intro j hj
      obtain ⟨h1, o, h2, _⟩ := mem_ready.1 hj
      have hlt : j < ops.size := (Array.getElem?_eq_some_iff.1 h2).1
      have hl : listed.getD j false = false := by
        have h3 : j < listed.size := by omega
        simp only [Array.getD_eq_getD_getElem?, Array.getElem?_eq_getElem h3, Option.getD_some] at h1 ⊢
        exact h1
      have := hcov j hlt hl
      have : U = [] := List.length_eq_zero_iff.1 (by omega)
      simp_all
    exact ⟨hr, fin listed c q φ a w hsz hr S⟩
  | succ fuel ih =>
    intro listed U c q φ a w hsz hU hcov S
    refine ⟨fun hr => fin listed c q φ a w hsz hr S, fun i hi => ?_⟩
    obtain ⟨h1, o, h2, h3⟩ := mem_ready.1 hi
    have hlt : i < ops.size := (Array.getElem?_eq_some_iff.1 h2).1
    have hlt' : i < listed.size := by omega
    have hio : ops.toList[i]? = some o := by simpa using h2
    have hlf : listed.getD i false = false := by
      simp only [Array.getD_eq_getD_getElem?, Array.getElem?_eq_getElem hlt', Option.getD_some] at h1 ⊢
      exact h1
    have hl : ¬ listed.getD i false = true := by rw [hlf]; simp
    have hr := anc_of_ready hio h3 hsz S.dc
    have hadd : addL (fun j => listed.getD j false = true) i = fun j => (listed.setIfInBounds i true).getD j false = true := by
      funext j
      unfold addL
      by_cases e : j = i
      · subst e; simp [hlt']
      · rw [getD_set_ne false (Ne.symm e)]; simp [e]
    have goOn : ∀ c' q' φ' a' w', Stg P nt ops (plan ops.toList) Es HS HH vs φ0 (HH 0) w0 c' q' (addL (fun j => listed.getD j false = true) i) φ' a' w' → wpAny P .any ops Q fuel (listed.setIfInBounds i true) a' w' := by
      intro c' q' φ' a' w' S'
      rw [hadd] at S'
      refine ih _ (U.erase i) c' q' φ' a' w' (by simpa using hsz) ?_ ?_ S'
      · rw [List.length_erase_of_mem (hcov i hlt hlf)]; omega
      · intro j hj hjl
        by_cases e : j = i
        · subst e; simp [hlt'] at hjl
        · rw [getD_set_ne false (Ne.symm e)] at hjl
          exact (List.mem_erase_of_ne e).2 (hcov j hj hjl)
    have hsees := C.sees S.dc hio hl hr
    have hopr := (opsOk_dst C.hok (List.mem_of_getElem? hio)).1
    have hopv := opv_of_looks hsees
    unfold wpOp
    rw [h2]
    simp only
    rw [wants_eq S.er C.hok o, wants_congr hsees]
    have hst := (C.step hio).2
    have hcl : cls o.op ≤ 1 ∨ cls o.op = 2 ∨ cls o.op = 3 := by
      rcases hst with ⟨h, _⟩ | ⟨h, _⟩ | ⟨h, _⟩
      · exact .inl h
      · exact .inr (.inl h)
      · exact .inr (.inr h)
    -- a step that leaves memory as it is
    have still : cls o.op ≠ 3 → (cls o.op = 2 → wants ops.toList (Es ((plan ops.toList).idxOf i)) o = false) → ∀ z, relV P φ (vs ((plan ops.toList).idxOf i)) z → wpAny P .any ops Q fuel (listed.setIfInBounds i true) (a.put o.dst z) w := by
      intro hc3 hc2 z hz
      refine goOn c q φ _ w (S.next C hio hl hr hc3 (Phi.le_refl φ) hz (S.inv.sub ?_) ?_)
      · rintro b x (h | ⟨j, oj, m, k1, k2, k3, k4, k5, k6, k7⟩)
        · exact .inl h
        · rcases k1 with rfl | k1
          · rw [hio] at k3; cases k3
            rw [hc2 k4] at k5; cases k5
          · exact .inr ⟨j, oj, m, k1, k2, k3, k4, k5, k6, k7⟩
      · intro b g1 g2 g3
        exact S.free b g1 g2 fun j oj k1 => g3 j oj (.inr k1)
    cases hw : wants ops.toList (Es ((plan ops.toList).idxOf i)) o with
    | false =>
      simp only [Bool.false_eq_true, if_false]
      obtain ⟨u1, u2⟩ := C.unlaid hio (.inr trivial) hw
      rcases Nat.lt_or_ge (cls o.op) 3 with hc3 | hc3
      · exact still (by omega) (fun _ => hw) undef (by rw [u1]; exact relV_dd)
      · have hc : cls o.op = 3 := by omega
        obtain ⟨hpos, R, F, k⟩ := S.act C hio hl hr hc
        rw [hpos] at u1 u2
        obtain ⟨c', q', S'⟩ := k φ w undef (by rw [u2]; exact R) (by rw [u2]; exact Keep.refl _ _ _) (by rw [u1]; exact relV_dd)
        exact goOn _ _ _ _ _ S'
    | true =>
      simp only [if_true]
      refine .inl ?_
      rcases hcl with hc | hc | hc
      · -- reckons or reads
        have hle : (plan ops.toList).idxOf i ≤ c := by
          rcases Nat.lt_or_ge c (plan ops.toList).length with hcn | hcn
          · obtain ⟨e, oe, g1, g2, g3, g4⟩ := S.nxt hcn
            rcases Nat.lt_or_ge c ((plan ops.toList).idxOf i) with hlt2 | hge
            · have hpe := C.at_pos g1
              have hb := C.hd.early i e o oe hio g2 hc g3 (by omega)
              exact absurd (hr e (List.getElem?_eq_some_iff.1 g2).1 hb) g4
            · exact hge
          · have := C.pos_lt hio; omega
        have hv := C.read hio hc hw S.cn hle (by
          intro p e oe g1 g2 g3 g4 g5
          cases hb : ((anc ops.toList).getD e 0).testBit i with
          | false => rfl
          | true => exact absurd (S.dc e i oe (S.eff p e oe g2 g3 g4 g5) g4 (by simpa using hlt) hb) hl)
        rw [← evV_congr hopv] at hv
        have hR : Rel P φ (HS c) w := S.inv.rel (fun b x hx => .inl hx) S.lt
        obtain ⟨z, hz, rz⟩ := run_evV S.er hopr hR hv
        unfold Oper.wp
        rw [hz]
        exact still (by omega) (fun h => by omega) z rz
      · -- lays a block
        have hq := S.notIn C hio hl (by omega) hc
        obtain ⟨blk, m, g1, g2, g3⟩ := C.laid hio hc hw
        rw [← evA_congr hopv] at g1
        obtain ⟨ob, top, hob, hfine, hrun⟩ := run_evA S.er hopr g1
        have hpn := C.pos_lt hio
        have hid1 : (HS c).next ≤ (HH ((plan ops.toList).idxOf i)).next := by rw [← S.hq]; exact C.mono hq (Nat.le_of_lt hpn)
        have hid2 : (HH ((plan ops.toList).idxOf i)).next < (HH (plan ops.toList).length).next := C.id_lt hio hc hw (Nat.le_refl _) hpn
        have hfree : φ (HH ((plan ops.toList).idxOf i)).next = none := by
          refine S.free _ hid1 hid2 fun j oj k1 k2 k3 k4 k5 hid => ?_
          rcases Nat.lt_trichotomy ((plan ops.toList).idxOf j) ((plan ops.toList).idxOf i) with h | h | h
          · have := C.ids k3 k4 k5 hio h; omega
          · have := C.pos_inj k3 hio h
            subst this; exact hl k1
          · have := C.ids hio hc hw k3 h; omega
        have hle : φ.le (φ.add (HH ((plan ops.toList).idxOf i)).next ⟨w.heap.size, 0, top⟩) := by
          intro b x hb
          rw [Phi.add_ne]; exact hb
          rintro rfl; rw [hfree] at hb; cases hb
        unfold Oper.wp
        rw [hrun]
        refine goOn c q _ _ _ (S.next C hio hl hr (by omega) hle (by rw [g2]; exact Mk.rel hfine (Phi.add_self φ _ _) rfl) ((S.inv.alloc hfree ?_ hid2 hob).sub ?_) ?_)
        · exact C.mono (Nat.zero_le _) (Nat.le_of_lt hpn)
        · rintro b x (h | ⟨j, oj, m', k1, k2, k3, k4, k5, k6, k7⟩)
          · exact .inl (.inl h)
          · rcases k1 with rfl | k1
            · rw [hio] at k3; cases k3
              rw [← evA_congr hopv, g1] at k7
              simp only [Option.some.injEq, Prod.mk.injEq] at k7
              exact .inr ⟨k6, k7.1.symm⟩
            · exact .inl (.inr ⟨j, oj, m', k1, k2, k3, k4, k5, k6, k7⟩)
        · intro b f1 f2 f3
          rw [Phi.add_ne fun e => f3 i o (.inl rfl) hq hio hc hw e.symm]
          exact S.free b f1 f2 fun j oj k1 => f3 j oj (.inr k1)
      · -- acts
        obtain ⟨hpos, R, F, k⟩ := S.act C hio hl hr hc
        rcases hst with ⟨h, _⟩ | ⟨h, _⟩ | ⟨_, hv, _⟩
        · omega
        · omega
        · rw [hpos] at hv hopv
          have hw' := hw
          rw [hpos] at hw'
          unfold gE at hv
          rw [hw'] at hv
          simp only [if_true] at hv
          rw [← evE_congr hopv] at hv
          refine acts_wp C.hS R F (run_evE C.hO S.er hopr R F hv) ?_
          intro z w' φ' R' K' rv
          obtain ⟨c', q', S'⟩ := k φ' w' z R' K' rv
          exact goOn _ _ _ _ _ S'


/-- A region whose order is open. -/
theorem sound_draw {id : Nat} (hm : P.follows .mixedOrders = true) (hO : CallOk P call) (hM : MonoCall call) (hS : CallSound P call) {R : Type} (hok : opsOk nt ops.toList = true) (hd : drawOk nt ops.toList = true) {r : R} {Q : Exit → Act → World → Prop}
    {M : Nat} {φ : Phi} {E : Env} {a : Act} {h : H} {w : World} (hE : ERel P φ E a nt) (hR : Rel P φ h w) (hF : Fresh φ h.next M) {k : Env → H → Option R}
    (he : evDraw P call nt ops.toList (anc ops.toList) (plan ops.toList) [] E h h k = some r) (hk : ∀ E' h', k E' h' = some r → h'.next ≤ M)
    (hn : ∀ φ' E' a' h' w', k E' h' = some r → ERel P φ' E' a' nt → Rel P φ' h' w' → Keep φ h w φ' h' w' → Q .normal a' w') : (Code.region id ops true).wp P Q a w := by
  obtain ⟨Es, HS, HH, vs, e1, e2, e3, sq, _, hkk⟩ := seqs_of he
  have C : Ctx P call nt ops (plan ops.toList) Es HS HH vs := ⟨hO, hM, hS, hok, plan_of hd, sq, e2.trans e3.symm⟩
  subst e3
  have hMn := hk _ _ hkk
  refine wp_region_any hm ?_
  obtain ⟨c, n1, n2, n3, n4, n5⟩ := C.nextE (plan ops.toList).length (c := 0) (Nat.zero_le _) (by omega)
  have hHc : HS c = HH 0 := n3.trans C.h0
  have none0 : ∀ j, ¬ (Array.replicate ops.size false).getD j false = true := by
    intro j
    simp only [Array.getD_eq_getD_getElem?, Array.getElem?_replicate]
    split <;> simp
  refine draw_go C (φ0 := φ) (w0 := w) (fun φ' a' w' k1 k2 k3 => hn φ' _ a' _ w' hkk k1 k2 k3) ops.size (Array.replicate ops.size false) (List.range ops.size) c 0 φ a { w with drawn := w.drawn + 1 } (by simp) (by simp)
    (fun i hi _ => List.mem_range.2 hi) ?_
  refine ⟨fun i j oi hl => absurd hl (none0 i), n2, Nat.zero_le _, hHc.symm, ?_, .inl rfl, fun p i o _ => n4 p i o (Nat.zero_le _), ?_, ?_, ?_, ?_, ?_⟩
  · rw [hHc]; exact hR.lt
  · intro p i o g1 g2 g3 g4
    exact absurd g4 (n4 p i o (Nat.zero_le _) g1 g2 g3)
  · intro g
    obtain ⟨i, o, g1, g2, g3⟩ := n5 g
    exact ⟨i, o, g1, g2, g3, none0 i⟩
  · have : cur ops (plan ops.toList) (Es 0) vs (fun j => (Array.replicate ops.size false).getD j false = true) = E := by
      funext t
      rw [Ctx.cur_out fun j o g => absurd g (none0 j), e1]
    rw [this]; exact hE
  · refine (Inv.start hR rfl).sub ?_
    rintro b x (g | ⟨i, o, m, g, _⟩)
    · rw [hHc] at g; exact g
    · exact absurd g (none0 i)
  · intro b g1 g2 _
    rw [hHc] at g1
    exact hF b g1 (by omega)

end
end Go.Proofs.YtnnebakkcdclmaaGreat.AM
