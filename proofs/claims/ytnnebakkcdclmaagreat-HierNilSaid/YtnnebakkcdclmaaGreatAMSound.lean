/-
  Proved here, for every program: a part of the soundness of an abstract machine against the model: lemmas. Conditions: none.
-/
import Derived.Test.YtnnebakkcdclmaaGreatAMOpsC
import Derived.Test.YtnnebakkcdclmaaGreatAMMono
import Derived.Tactics
import Derived.LoopN
namespace Go.Proofs.YtnnebakkcdclmaaGreat.AM
section
variable {P : Program}

theorem relV_bool_inv {φ : Phi} {v : V} {b : Bool} (r : relV P φ v (.bool b)) : v = .B b := by
  cases v
  case B => have := relV_B.1 r; cases this; rfl
  case I => have := relV_I.1 r; cases this
  case F => have := relV_F.1 r; cases this
  case X => have := relV_X.1 r; cases this
  case S => have := relV_S.1 r; cases this
  case P => obtain ⟨l, _, h⟩ := relV_P.1 r; cases h
  case P0 => have := relV_P0.1 r; cases this
  case L => obtain ⟨_, _, h⟩ := relV_Lany r; cases h
  case L0 => have := relV_L0.1 r; cases this
  case M => obtain ⟨l, _, h⟩ := relV_M.1 r; cases h
  case M0 => have := relV_M0.1 r; cases this
  case Fn => obtain ⟨_, _, h, _⟩ := relV_Fn.1 r; cases h
  case Fn0 => have := relV_Fn0.1 r; cases this
  case If => obtain ⟨_, _, h, _⟩ := relV_If.1 r; cases h
  case If0 => have := relV_If0.1 r; cases this
  case St => obtain ⟨_, _, h⟩ := relV_St.1 r; cases h
  case Ar => obtain ⟨_, _, h⟩ := relV_Ar.1 r; cases h
  case T => obtain ⟨_, h, _⟩ := relV_T.1 r; cases h

theorem opsOk_dst {nt : Nat} {ops : List Oper} (h : opsOk nt ops = true) {o : Oper} (ho : o ∈ ops) : o.op.operands.all (okOp nt) = true ∧ ∀ d, o.dst = some d → d < nt := by
  have := List.all_eq_true.1 h o ho
  simp only [Bool.and_eq_true] at this
  refine ⟨this.1, fun d hd => ?_⟩
  rw [hd] at this
  simpa using this.2

theorem wants_eq {φ : Phi} {E : Env} {a : Act} {nt : Nat} (r : ERel P φ E a nt) {ops : Array Oper} (hok : opsOk nt ops.toList = true) (o : Oper) : Region.wanted o (yielded ops a.tmps) = wants ops.toList E o := by
  unfold Region.wanted wants
  cases hg : o.guard with
  | none => rfl
  | some g =>
    obtain ⟨j, w⟩ := g
    simp only
    unfold yielded
    have e : ops.toList[j]? = ops[j]? := by simp
    rw [e]
    cases hj : ops[j]? with
    | none => simp
    | some oj =>
      cases hd : oj.dst with
      | none => simp [hd]
      | some t =>
        have hm : oj ∈ ops.toList := by
          have := List.mem_of_getElem? (e.trans hj); exact this
        have ht := (opsOk_dst hok hm).2 t hd
        have hs := r.sz
        have hr := r.at_ t ht
        have hget : a.tmps[t]? = some (a.tmps.getD t undef) := by
          have : t < a.tmps.size := by rw [hs]; exact ht
          simp [this]
        simp only [Option.bind_some, hd, hget]
        cases hv : a.tmps.getD t undef <;> rw [hv] at hr
        case bool b => rw [relV_bool_inv hr]; simp
        all_goals
          cases hE : E t <;> first | (simp; done) | skip
          rw [hE] at hr
          have := relV_B.1 hr
          cases this

/-- A function called comes to what the machine says. -/
def CallSound (P : Program) (call : CallT) : Prop :=
  ∀ f vs h v h', call f vs h = some (v, h') → ∀ φ w xs, Rel P φ h w → Fresh φ h.next h'.next → relVs P φ vs xs →
    Calls P f (List.toArray xs) w fun e w' => ∃ φ' x, e = .returned x ∧ Rel P φ' h' w' ∧ Keep φ h w φ' h' w' ∧ relV P φ' v x

theorem acts_wp {call : CallT} (hS : CallSound P call) {φ : Phi} {h h' : H} {w : World} {v : V} {o : Oper} {a : Act} (R : Rel P φ h w) (hf : Fresh φ h.next h'.next) {next : Act → World → Prop} {Q : Exit → Act → World → Prop}
    (hA : Acts P φ call h w v h' ((execOp a.eval o).run P w)) (hn : ∀ z w' φ', Rel P φ' h' w' → Keep φ h w φ' h' w' → relV P φ' v z → next (a.put o.dst z) w') : o.wp P a w next Q := by
  unfold Oper.wp
  rcases hA with ⟨z, w', φ', e, R', K', rv⟩ | ⟨w', φ', e, rfl, R', K'⟩ | ⟨f, vs, xs, e, hc, rx⟩
  · rw [e]; exact hn z w' φ' R' K' rv
  · rw [e]; exact hn undef w' φ' R' K' relV_dd
  · rw [e]
    simp only [Oper.upon]
    refine (hS f vs h v h' hc φ w xs R hf rx).mono ?_
    rintro e w' ⟨φ', x, rfl, R', K', rv⟩
    exact hn x w' φ' R' K' rv

/-- One operation in its turn. -/
theorem sound_op {call : CallT} (hO : CallOk P call) (_hM : MonoCall call) (hS : CallSound P call) {R : Type} {nt M : Nat} {ops : Array Oper} (hok : opsOk nt ops.toList = true) {o : Oper} (ho : o ∈ ops.toList)
    {φ : Phi} {E : Env} {a : Act} {h : H} {w : World} (hE : ERel P φ E a nt) (hR : Rel P φ h w) (hF : Fresh φ h.next M) {k : Env → H → Option R} {r : R}
    (he : evOp P call nt ops.toList o E h k = some r) (hk : ∀ E' h', k E' h' = some r → h'.next ≤ M) {next : Act → World → Prop} {Q : Exit → Act → World → Prop}
    (hn : ∀ φ' E' a' h' w', k E' h' = some r → ERel P φ' E' a' nt → Rel P φ' h' w' → Keep φ h w φ' h' w' → next a' w') :
    if Region.wanted o (yielded ops a.tmps) then o.wp P a w next Q else next (a.put o.dst undef) w := by
  rw [wants_eq hE hok o]
  have hopr := (opsOk_dst hok ho).1
  unfold evOp at he
  have pureCase : ((gV (wants ops.toList E o) fun _ => evV P E h o).bind fun v => k (E.upd nt o.dst v) h) = some r →
      if wants ops.toList E o then o.wp P a w next Q else next (a.put o.dst undef) w := by
    intro he
    simp only [Option.bind_eq_some_iff] at he
    obtain ⟨v, hv, he⟩ := he
    unfold gV at hv
    cases hw : wants ops.toList E o with
    | true =>
      simp only [hw, if_true] at hv ⊢
      obtain ⟨z, hz, rz⟩ := run_evV (w := w) hE hopr hR hv
      unfold Oper.wp
      rw [hz]
      exact hn φ _ _ h w he (hE.put rz) hR (Keep.refl _ _ _)
    | false =>
      simp only [hw, Bool.false_eq_true, if_false, Option.some.injEq] at hv ⊢
      subst hv
      exact hn φ _ _ h w he (hE.put relV_dd) hR (Keep.refl _ _ _)
  split at he
  · exact pureCase he
  · exact pureCase he
  · simp only [Option.bind_eq_some_iff] at he
    obtain ⟨⟨v, h1⟩, hv, he⟩ := he
    unfold gE at hv
    cases hw : wants ops.toList E o with
    | true =>
      simp only [hw, if_true] at hv ⊢
      unfold mkB at hv
      split at hv
      · rename_i blk m hA
        cases hv
        obtain ⟨ob, top, hob, hfine, hrun⟩ := run_evA hE hopr hA
        have hm := hk _ _ he
        have hfr : φ h.next = none := hF h.next (Nat.le_refl _) (by simp at hm; omega)
        obtain ⟨R', K'⟩ := hR.lay hfr hob
        unfold Oper.wp
        rw [hrun]
        exact hn _ _ _ _ _ he ((hE.mono K'.ext).put (Mk.rel hfine (Phi.add_self φ h.next _) rfl)) R' K'
      · cases hv
    | false =>
      simp only [hw, Bool.false_eq_true, if_false, Option.some.injEq, Prod.mk.injEq] at hv ⊢
      obtain ⟨rfl, rfl⟩ := hv
      exact hn φ _ _ h w he (hE.put relV_dd) hR (Keep.refl _ _ _)
  · simp only [Option.bind_eq_some_iff] at he
    obtain ⟨⟨v, h1⟩, hv, he⟩ := he
    unfold gE at hv
    cases hw : wants ops.toList E o with
    | true =>
      simp only [hw, if_true] at hv ⊢
      have hm := hk _ _ he
      have hF1 : Fresh φ h.next h1.next := hF.left hm
      refine acts_wp hS hR hF1 (run_evE hO hE hopr hR hF1 hv) ?_
      intro z w' φ' R' K' rv
      exact hn φ' _ _ h1 w' he ((hE.mono K'.ext).put rv) R' K'
    | false =>
      simp only [hw, Bool.false_eq_true, if_false, Option.some.injEq, Prod.mk.injEq] at hv ⊢
      obtain ⟨rfl, rfl⟩ := hv
      exact hn φ _ _ h w he (hE.put relV_dd) hR (Keep.refl _ _ _)
  · cases he

theorem sound_ops {call : CallT} (hO : CallOk P call) (hM : MonoCall call) (hS : CallSound P call) {R : Type} {nt M : Nat} {ops : Array Oper} (hok : opsOk nt ops.toList = true) {r : R} {Q : Exit → Act → World → Prop} :
    ∀ {os : List Oper} (_ : ∀ o ∈ os, o ∈ ops.toList) {φ : Phi} {E : Env} {a : Act} {h : H} {w : World} (_ : ERel P φ E a nt) (_ : Rel P φ h w) (_ : Fresh φ h.next M) {k : Env → H → Option R}
    (_ : evOps P call nt ops.toList os E h k = some r) (_ : ∀ E' h', k E' h' = some r → h'.next ≤ M)
    (_ : ∀ φ' E' a' h' w', k E' h' = some r → ERel P φ' E' a' nt → Rel P φ' h' w' → Keep φ h w φ' h' w' → Q .normal a' w'), wpList P ops Q os a w
  | [], _, φ, E, a, h, w, hE, hR, hF, k, he, hk, hn => hn φ E a h w he hE hR (Keep.refl _ _ _)
  | o :: os, hos, φ, E, a, h, w, hE, hR, hF, k, he, hk, hn => by
    simp only [evOps] at he
    have hstep := sound_op (Q := Q) (next := wpList P ops Q os) hO hM hS hok (hos o (by simp)) hE hR hF he (fun E' h' he' => evOps_next hM he' hk) (by
      intro φ' E' a' h' w' he' hE' hR' hK'
      exact sound_ops hO hM hS hok (fun o ho => hos o (by simp [ho])) hE' hR' (hF.right hK') he' hk fun φ2 E2 a2 h2 w2 he2 hE2 hR2 hK2 => hn φ2 E2 a2 h2 w2 he2 hE2 hR2 (hK'.trans hK2))
    simp only [wpList]
    split at hstep
    · rw [if_pos (by assumption)]; exact .inl hstep
    · rw [if_neg (by assumption)]; exact hstep

end
end Go.Proofs.YtnnebakkcdclmaaGreat.AM
