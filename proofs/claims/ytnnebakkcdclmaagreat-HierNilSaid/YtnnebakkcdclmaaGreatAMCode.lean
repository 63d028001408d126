/-
  Proved here, for every program: a part of the soundness of an abstract machine against the model: lemmas. Conditions: none.
-/
import Derived.Test.YtnnebakkcdclmaaGreatAMDraw7
import Derived.Scope
namespace Go.Proofs.YtnnebakkcdclmaaGreat.AM

def Ex.out : Ex → Exit
  | .norm => .normal
  | .exit i => .exit i
  | .goto l => .goto l
  | .ret => .ret

section
variable {P : Program} {call : CallT} {nt N M : Nat} {R : Type} {r : R}

def GoesOn (P : Program) (nt : Nat) (φ : Phi) (h : H) (w : World) (k : K R) (r : R) (Q : Exit → Act → World → Prop) : Prop :=
  ∀ ex φ' E' a' h' w', k ex E' h' = some r → ERel P φ' E' a' nt → Rel P φ' h' w' → Keep φ h w φ' h' w' → Q ex.out a' w'

/-- Rounds from a label on. -/
def jrounds (P : Program) (rest : Code) (l : Nat) (Q : Exit → Act → World → Prop) : Nat → Act → World → Prop
  | 0, _, _ => False
  | n + 1, a, w => rest.wp P (fun e a w => match e with | .goto l' => l' = l ∧ jrounds P rest l Q n a w | e => Q e a w) a w

theorem wp_scope_any {c : Code} {Q : Exit → Act → World → Prop} {a : Act} {w : World}
    (first : c.wp P (fun e a w => match e with | .goto l => ∃ rest n, findLabel c l = some rest ∧ jrounds P rest l Q n a w | e => Q e a w) a w) : (Code.scope c).wp P Q a w := by
  intro b k cs
  have key : ∀ l rest, findLabel c l = some rest → ∀ n a w, jrounds P rest l Q n a w → ∃ e a' w', Q e a' w' ∧ Arrives P (lone (b.at a (.code rest :: .inScope c :: k)) cs w) b k cs e a' w' := by
    intro l rest hf n
    have hg : gotoIn l (.inScope c :: k) = some (.code rest :: .inScope c :: k) := by simp [gotoIn, hf]
    induction n with
    | zero => intro a w h; exact h.elim
    | succ n ih =>
      intro a w h
      obtain ⟨e, a₁, w₁, hq, harr⟩ := h b (.inScope c :: k) cs
      cases e with
      | normal => exact ⟨.normal, a₁, w₁, hq, Steps.trans harr (.one step_inScope)⟩
      | exit id => exact ⟨.exit id, a₁, w₁, hq, fun k' hk => harr k' (by simp [exitTo, hk])⟩
      | goto l' =>
        obtain ⟨rfl, hJ'⟩ := hq
        obtain ⟨e₂, a₂, w₂, hq₂, harr₂⟩ := ih a₁ w₁ hJ'
        exact ⟨e₂, a₂, w₂, hq₂, .of_steps (harr _ hg) harr₂⟩
      | ret => exact ⟨_, a₁, w₁, hq, harr⟩
      | panic ch => exact ⟨_, a₁, w₁, hq, harr⟩
      | outgrown => exact ⟨_, a₁, w₁, hq, harr⟩
  obtain ⟨e, a₁, w₁, hq, harr⟩ := first b (.inScope c :: k) cs
  cases e with
  | normal => exact ⟨.normal, a₁, w₁, hq, .head step_scope (Steps.trans harr (.one step_inScope))⟩
  | exit id => exact ⟨.exit id, a₁, w₁, hq, fun k' hk => .head step_scope (harr k' (by simp [exitTo, hk]))⟩
  | goto l' =>
    obtain ⟨rest, n, hf, hJ'⟩ := hq
    have hg : gotoIn l' (.inScope c :: k) = some (.code rest :: .inScope c :: k) := by simp [gotoIn, hf]
    obtain ⟨e₂, a₂, w₂, hq₂, harr₂⟩ := key l' rest hf n a₁ w₁ hJ'
    exact ⟨e₂, a₂, w₂, hq₂, .of_steps (.head step_scope (harr _ hg)) harr₂⟩
  | ret => exact ⟨_, a₁, w₁, hq, .of_steps (.one step_scope) harr⟩
  | panic ch => exact ⟨_, a₁, w₁, hq, .of_steps (.one step_scope) harr⟩
  | outgrown => exact ⟨_, a₁, w₁, hq, .of_steps (.one step_scope) harr⟩

theorem hasLabel_iff : ∀ {c : Code} {l : Nat}, hasLabel c l = true → ∃ rest, findLabel c l = some rest
  | .seq a b, l, h => by
    simp only [hasLabel, Bool.or_eq_true] at h
    simp only [findLabel]
    cases ha : findLabel a l with
    | some rest => exact ⟨_, rfl⟩
    | none =>
      rcases h with h | h
      · obtain ⟨r, hr⟩ := hasLabel_iff h
        rw [hr] at ha; cases ha
      · exact hasLabel_iff h
  | .label l', l, h => by
    simp only [hasLabel] at h
    simp only [findLabel, h, if_true]
    exact ⟨_, rfl⟩
  | .skip, _, h | .region .., _, h | .cond .., _, h | .block .., _, h | .loop _, _, h | .exit _, _, h | .goto _, _, h | .ret, _, h | .scope _, _, h | .rangeFunc .., _, h | .refuse _, _, h => by simp [hasLabel] at h

theorem hasLabel_of : ∀ {c : Code} {l : Nat} {rest : Code}, findLabel c l = some rest → hasLabel c l = true
  | .seq a b, l, rest, h => by
    simp only [findLabel] at h
    simp only [hasLabel, Bool.or_eq_true]
    cases ha : findLabel a l with
    | some r => exact .inl (hasLabel_of ha)
    | none => rw [ha] at h; exact .inr (hasLabel_of h)
  | .label l', l, rest, h => by
    simp only [findLabel] at h
    simp only [hasLabel]
    split at h
    · assumption
    · cases h
  | .skip, _, _, h | .region .., _, _, h | .cond .., _, _, h | .block .., _, _, h | .loop _, _, _, h | .exit _, _, _, h | .goto _, _, _, h | .ret, _, _, h | .scope _, _, _, h | .rangeFunc .., _, _, h | .refuse _, _, _, h => by simp [findLabel] at h

theorem sound_jumps (hM : MonoCall call) {c rest : Code} {l : Nat}
    (hc : ∀ {E : Env} {h : H} {k : K R} {φ : Phi} {a : Act} {w : World} {Q : Exit → Act → World → Prop}, evL P call nt N l c E h k = some r → (∀ ex E' h', k ex E' h' = some r → h'.next ≤ M) → ERel P φ E a nt → Rel P φ h w → Fresh φ h.next M →
      GoesOn P nt φ h w k r Q → rest.wp P Q a w) {Q : Exit → Act → World → Prop} :
    ∀ {n : Nat} {E : Env} {h : H} {k : K R} {φ : Phi} {a : Act} {w : World}, jumps l (fun E h k => evL P call nt N l c E h k) n E h k = some r → (∀ ex E' h', k ex E' h' = some r → h'.next ≤ M) →
      ERel P φ E a nt → Rel P φ h w → Fresh φ h.next M → (∀ ex φ' E' a' h' w', k ex E' h' = some r → ERel P φ' E' a' nt → Rel P φ' h' w' → Keep φ h w φ' h' w' → Q ex.out a' w') → jrounds P rest l Q n a w
  | 0, _, _, _, _, _, _, he, _, _, _, _, _ => by cases he
  | n + 1, E, h, k, φ, a, w, he, hk, hE, hR, hF, hn => by
    simp only [jumps] at he
    simp only [jrounds]
    refine hc he ?_ hE hR hF ?_
    · intro ex E' h' he'
      cases ex with
      | norm => exact hk _ _ _ he'
      | exit i => exact hk _ _ _ he'
      | goto l' =>
        simp only at he'
        split at he'
        · exact jumps_next (fun {E h k} he hk => evL_next hM he hk) he' hk
        · cases he'
      | ret => exact hk _ _ _ he'
    · intro ex φ' E' a' h' w' he' hE' hR' hK'
      cases ex with
      | norm => exact hn .norm φ' E' a' h' w' he' hE' hR' hK'
      | exit i => exact hn (.exit i) φ' E' a' h' w' he' hE' hR' hK'
      | goto l' =>
        simp only at he'
        split at he'
        · rename_i e
          exact ⟨e, sound_jumps hM hc he' hk hE' hR' (hF.right hK') fun ex2 φ2 E2 a2 h2 w2 he2 hE2 hR2 hK2 => hn ex2 φ2 E2 a2 h2 w2 he2 hE2 hR2 (hK'.trans hK2)⟩
        · cases he'
      | ret => exact hn .ret φ' E' a' h' w' he' hE' hR' hK'

theorem sound_iter (hM : MonoCall call) {c : Code}
    (hc : ∀ {E : Env} {h : H} {k : K R} {φ : Phi} {a : Act} {w : World} {Q : Exit → Act → World → Prop}, evC P call nt N c E h k = some r → (∀ ex E' h', k ex E' h' = some r → h'.next ≤ M) → ERel P φ E a nt → Rel P φ h w → Fresh φ h.next M →
      GoesOn P nt φ h w k r Q → c.wp P Q a w) {Q : Exit → Act → World → Prop} :
    ∀ {n : Nat} {E : Env} {h : H} {k : K R} {φ : Phi} {a : Act} {w : World}, iter (fun E h k => evC P call nt N c E h k) n E h k = some r → (∀ ex E' h', k ex E' h' = some r → h'.next ≤ M) →
      ERel P φ E a nt → Rel P φ h w → Fresh φ h.next M → GoesOn P nt φ h w k r Q → Code.rounds P c Q n a w
  | 0, _, _, _, _, _, _, he, _, _, _, _, _ => by cases he
  | n + 1, E, h, k, φ, a, w, he, hk, hE, hR, hF, hn => by
    simp only [iter] at he
    rw [rounds_succ]
    refine hc he ?_ hE hR hF ?_
    · intro ex E' h' he'
      cases ex with
      | norm => exact iter_next (fun he hk => evC_next hM he hk) he' hk
      | exit i => exact hk _ _ _ he'
      | goto l => exact hk _ _ _ he'
      | ret => exact hk _ _ _ he'
    · intro ex φ' E' a' h' w' he' hE' hR' hK'
      cases ex with
      | norm =>
        exact sound_iter hM hc he' hk hE' hR' (hF.right hK') fun ex2 φ2 E2 a2 h2 w2 he2 hE2 hR2 hK2 => hn ex2 φ2 E2 a2 h2 w2 he2 hE2 hR2 (hK'.trans hK2)
      | exit i => exact hn (.exit i) φ' E' a' h' w' he' hE' hR' hK'
      | goto l => exact hn (.goto l) φ' E' a' h' w' he' hE' hR' hK'
      | ret => exact hn .ret φ' E' a' h' w' he' hE' hR' hK'

mutual
theorem sound_code (hm : P.follows .mixedOrders = true) (hO : CallOk P call) (hM : MonoCall call) (hS : CallSound P call) :
    ∀ {c : Code} {E : Env} {h : H} {k : K R} {φ : Phi} {a : Act} {w : World} {Q : Exit → Act → World → Prop}, evC P call nt N c E h k = some r → (∀ ex E' h', k ex E' h' = some r → h'.next ≤ M) → ERel P φ E a nt → Rel P φ h w → Fresh φ h.next M →
      GoesOn P nt φ h w k r Q → c.wp P Q a w
  | .skip, E, h, k, φ, a, w, Q, he, hk, hE, hR, hF, hn => wp_skip (hn .norm φ E a h w (by simpa only [evC] using he) hE hR (Keep.refl _ _ _))
  | .label _, E, h, k, φ, a, w, Q, he, hk, hE, hR, hF, hn => wp_label (hn .norm φ E a h w (by simpa only [evC] using he) hE hR (Keep.refl _ _ _))
  | .region id ops draw, E, h, k, φ, a, w, Q, he, hk, hE, hR, hF, hn => by
    simp only [evC] at he
    split at he
    · rename_i hok
      cases draw with
      | true =>
        simp only [if_true] at he
        split at he
        · rename_i hd
          exact sound_draw hm hO hM hS hok hd hE hR hF he (fun E' h' => hk _ _ _) fun φ' E' a' h' w' he' hE' hR' hK' => hn .norm φ' E' a' h' w' he' hE' hR' hK'
        · cases he
      | false =>
        simp only [Bool.false_eq_true, if_false] at he
        exact wp_region_list (sound_ops hO hM hS hok (fun o ho => ho) hE hR hF he (fun E' h' => hk _ _ _) fun φ' E' a' h' w' he' hE' hR' hK' => hn .norm φ' E' a' h' w' he' hE' hR' hK')
    · cases he
  | .seq x y, E, h, k, φ, a, w, Q, he, hk, hE, hR, hF, hn => by
    simp only [evC] at he
    refine wp_seq (sound_code hm hO hM hS he ?_ hE hR hF ?_)
    · intro ex E' h' he'
      cases ex with
      | norm => exact evC_next hM he' hk
      | exit i => exact hk _ _ _ he'
      | goto l => exact hk _ _ _ he'
      | ret => exact hk _ _ _ he'
    · intro ex φ' E' a' h' w' he' hE' hR' hK'
      cases ex with
      | norm =>
        exact sound_code hm hO hM hS he' hk hE' hR' (hF.right hK') fun ex2 φ2 E2 a2 h2 w2 he2 hE2 hR2 hK2 => hn ex2 φ2 E2 a2 h2 w2 he2 hE2 hR2 (hK'.trans hK2)
      | exit i => exact hn (.exit i) φ' E' a' h' w' he' hE' hR' hK'
      | goto l => exact hn (.goto l) φ' E' a' h' w' he' hE' hR' hK'
      | ret => exact hn .ret φ' E' a' h' w' he' hE' hR' hK'
  | .cond c x y, E, h, k, φ, a, w, Q, he, hk, hE, hR, hF, hn => by
    simp only [evC] at he
    split at he
    · rename_i hoc
      unfold condV at he
      split at he
      · rename_i t ht
        have hr := opv_rel hE hoc
        rw [ht] at hr
        refine wp_cond (relV_B.1 hr) ?_
        cases t with
        | true => exact sound_code hm hO hM hS (by simpa using he) hk hE hR hF hn
        | false => exact sound_code hm hO hM hS (by simpa using he) hk hE hR hF hn
      · cases he
    · cases he
  | .block id c, E, h, k, φ, a, w, Q, he, hk, hE, hR, hF, hn => by
    simp only [evC] at he
    refine wp_block (sound_code hm hO hM hS he ?_ hE hR hF ?_)
    · intro ex E' h' he'
      cases ex with
      | norm => exact hk _ _ _ he'
      | exit i => simp only at he'; split at he' <;> exact hk _ _ _ he'
      | goto l => exact hk _ _ _ he'
      | ret => exact hk _ _ _ he'
    · intro ex φ' E' a' h' w' he' hE' hR' hK'
      cases ex with
      | norm => exact hn .norm φ' E' a' h' w' he' hE' hR' hK'
      | exit i =>
        simp only at he'
        simp only [Ex.out, Exit.inBlock]
        split at he'
        · rename_i e
          rw [if_pos e]
          exact hn .norm φ' E' a' h' w' he' hE' hR' hK'
        · rename_i e
          rw [if_neg e]
          exact hn (.exit i) φ' E' a' h' w' he' hE' hR' hK'
      | goto l => exact hn (.goto l) φ' E' a' h' w' he' hE' hR' hK'
      | ret => exact hn .ret φ' E' a' h' w' he' hE' hR' hK'
  | .loop c, E, h, k, φ, a, w, Q, he, hk, hE, hR, hF, hn => by
    simp only [evC] at he
    exact wp_loop_rounds N (sound_iter hM (fun he hk hE hR hF hn => sound_code hm hO hM hS he hk hE hR hF hn) he hk hE hR hF hn)
  | .exit id, E, h, k, φ, a, w, Q, he, hk, hE, hR, hF, hn => wp_exit (hn (.exit id) φ E a h w (by simpa only [evC] using he) hE hR (Keep.refl _ _ _))
  | .goto l, E, h, k, φ, a, w, Q, he, hk, hE, hR, hF, hn => wp_goto (hn (.goto l) φ E a h w (by simpa only [evC] using he) hE hR (Keep.refl _ _ _))
  | .ret, E, h, k, φ, a, w, Q, he, hk, hE, hR, hF, hn => wp_ret (hn .ret φ E a h w (by simpa only [evC] using he) hE hR (Keep.refl _ _ _))
  | .rangeFunc .., _, _, _, _, _, _, _, he, _, _, _, _, _ => by simp [evC] at he
  | .scope c, E, h, k, φ, a, w, Q, he, hk, hE, hR, hF, hn => by
    simp only [evC] at he
    refine wp_scope_any (sound_code hm hO hM hS he ?_ hE hR hF ?_)
    · intro ex E' h' he'
      cases ex with
      | norm => exact hk _ _ _ he'
      | exit i => exact hk _ _ _ he'
      | goto l =>
        simp only at he'
        split at he'
        · exact jumps_next (fun {E h k} he hk => evL_next hM he hk) he' hk
        · cases he'
      | ret => exact hk _ _ _ he'
    · intro ex φ' E' a' h' w' he' hE' hR' hK'
      cases ex with
      | norm => exact hn .norm φ' E' a' h' w' he' hE' hR' hK'
      | exit i => exact hn (.exit i) φ' E' a' h' w' he' hE' hR' hK'
      | goto l =>
        simp only at he'
        split at he'
        · rename_i hl
          obtain ⟨rest, hrest⟩ := hasLabel_iff hl
          refine ⟨rest, N, hrest, sound_jumps hM (fun he hk hE hR hF hn => sound_label hm hO hM hS hrest he hk hE hR hF hn) he' hk hE' hR' (hF.right hK') ?_⟩
          intro ex2 φ2 E2 a2 h2 w2 he2 hE2 hR2 hK2
          exact hn ex2 φ2 E2 a2 h2 w2 he2 hE2 hR2 (hK'.trans hK2)
        · cases he'
      | ret => exact hn .ret φ' E' a' h' w' he' hE' hR' hK'
  | .refuse _, _, _, _, _, _, _, _, he, _, _, _, _, _ => by simp [evC] at he

theorem sound_label (hm : P.follows .mixedOrders = true) (hO : CallOk P call) (hM : MonoCall call) (hS : CallSound P call) {l : Nat} :
    ∀ {c rest : Code} (_ : findLabel c l = some rest) {E : Env} {h : H} {k : K R} {φ : Phi} {a : Act} {w : World} {Q : Exit → Act → World → Prop}, evL P call nt N l c E h k = some r → (∀ ex E' h', k ex E' h' = some r → h'.next ≤ M) → ERel P φ E a nt → Rel P φ h w → Fresh φ h.next M →
      GoesOn P nt φ h w k r Q → rest.wp P Q a w
  | .seq x y, rest, hf, E, h, k, φ, a, w, Q, he, hk, hE, hR, hF, hn => by
    simp only [evL] at he
    simp only [findLabel] at hf
    split at he
    · rename_i hl
      obtain ⟨r1, hr1⟩ := hasLabel_iff hl
      rw [hr1] at hf
      simp only [Option.some.injEq] at hf
      subst hf
      refine wp_seq (sound_label hm hO hM hS hr1 he ?_ hE hR hF ?_)
      · intro ex E' h' he'
        cases ex with
        | norm => exact evC_next hM he' hk
        | exit i => exact hk _ _ _ he'
        | goto l => exact hk _ _ _ he'
        | ret => exact hk _ _ _ he'
      · intro ex φ' E' a' h' w' he' hE' hR' hK'
        cases ex with
        | norm =>
          exact sound_code hm hO hM hS he' hk hE' hR' (hF.right hK') fun ex2 φ2 E2 a2 h2 w2 he2 hE2 hR2 hK2 => hn ex2 φ2 E2 a2 h2 w2 he2 hE2 hR2 (hK'.trans hK2)
        | exit i => exact hn (.exit i) φ' E' a' h' w' he' hE' hR' hK'
        | goto l => exact hn (.goto l) φ' E' a' h' w' he' hE' hR' hK'
        | ret => exact hn .ret φ' E' a' h' w' he' hE' hR' hK'
    · rename_i hl
      cases hx : findLabel x l with
      | some r1 => exact absurd (hasLabel_of hx) hl
      | none =>
        rw [hx] at hf
        exact sound_label hm hO hM hS hf he hk hE hR hF hn
  | .label l', rest, hf, E, h, k, φ, a, w, Q, he, hk, hE, hR, hF, hn => by
    simp only [evL] at he
    simp only [findLabel] at hf
    split at he
    · rename_i hl
      rw [if_pos hl] at hf
      simp only [Option.some.injEq] at hf
      subst hf
      exact wp_skip (hn .norm φ E a h w he hE hR (Keep.refl _ _ _))
    · cases he
  | .skip, _, hf, _, _, _, _, _, _, _, _, _, _, _, _, _ | .region .., _, hf, _, _, _, _, _, _, _, _, _, _, _, _, _ | .cond .., _, hf, _, _, _, _, _, _, _, _, _, _, _, _, _ | .block .., _, hf, _, _, _, _, _, _, _, _, _, _, _, _, _
  | .loop _, _, hf, _, _, _, _, _, _, _, _, _, _, _, _, _ | .exit _, _, hf, _, _, _, _, _, _, _, _, _, _, _, _, _ | .goto _, _, hf, _, _, _, _, _, _, _, _, _, _, _, _, _ | .ret, _, hf, _, _, _, _, _, _, _, _, _, _, _, _, _
  | .scope _, _, hf, _, _, _, _, _, _, _, _, _, _, _, _, _ | .rangeFunc .., _, hf, _, _, _, _, _, _, _, _, _, _, _, _, _ | .refuse _, _, hf, _, _, _, _, _, _, _, _, _, _, _, _, _ => by simp [findLabel] at hf
end

end
end Go.Proofs.YtnnebakkcdclmaaGreat.AM
