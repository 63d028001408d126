/-
  Proved here, for every program: a part of the soundness of an abstract machine against the model: lemmas. Conditions: none.
-/
import Derived.Test.YtdnomnhelhbniaaGreatAMDraw7
namespace Go.Proofs.YtdnomnhelhbniaaGreat.AM

def Ex.out : Ex → Exit
  | .norm => .normal
  | .exit i => .exit i
  | .goto l => .goto l
  | .ret => .ret

section
variable {P : Program} {call : CallT} {nt N M : Nat} {R : Type} {r : R}

def GoesOn (P : Program) (nt : Nat) (φ : Phi) (h : H) (w : World) (k : K R) (r : R) (Q : Exit → Act → World → Prop) : Prop :=
  ∀ ex φ' E' a' h' w', k ex E' h' = some r → ERel P φ' E' a' nt → Rel P φ' h' w' → Keep φ h w φ' h' w' → Q ex.out a' w'

theorem sound_iter (hM : MonoCall call) {c : Code}
    (hc : ∀ {E : Env} {h : H} {k : K R} {φ : Phi} {a : Act} {w : World} {Q : Exit → Act → World → Prop}, evC P call nt N c E h k = some r → (∀ ex E' h', k ex E' h' = some r → h'.next ≤ M) → ERel P φ E a nt → Rel P φ h w → Fresh φ h.next M →
      GoesOn P nt φ h w k r Q → c.wp P Q a w) {Q : Exit → Act → World → Prop} :
    ∀ {n : Nat} {E : Env} {h : H} {k : K R} {φ : Phi} {a : Act} {w : World}, iter (fun E h k => evC P call nt N c E h k) n E h k = some r → (∀ ex E' h', k ex E' h' = some r → h'.next ≤ M) →
      ERel P φ E a nt → Rel P φ h w → Fresh φ h.next M → GoesOn P nt φ h w k r Q → Code.rounds P c Q n a w
  | 0, _, _, _, _, _, _, he, _, _, _, _, _ => by cases he
  | n + 1, E, h, k, φ, a, w, he, hk, hE, hR, hF, hn => by
    simp only [iter] at he
    rw [rounds_succ]
    refine hc he ?_ hE hR hF ?_
    · intro ex E' h' he'
      cases ex with
      | norm => exact iter_next (fun he hk => evC_next hM he hk) he' hk
      | exit i => exact hk _ _ _ he'
      | goto l => exact hk _ _ _ he'
      | ret => exact hk _ _ _ he'
    · intro ex φ' E' a' h' w' he' hE' hR' hK'
      cases ex with
      | norm =>
        exact sound_iter hM hc he' hk hE' hR' (hF.right hK') fun ex2 φ2 E2 a2 h2 w2 he2 hE2 hR2 hK2 => hn ex2 φ2 E2 a2 h2 w2 he2 hE2 hR2 (hK'.trans hK2)
      | exit i => exact hn (.exit i) φ' E' a' h' w' he' hE' hR' hK'
      | goto l => exact hn (.goto l) φ' E' a' h' w' he' hE' hR' hK'
      | ret => exact hn .ret φ' E' a' h' w' he' hE' hR' hK'

theorem sound_code (hm : P.follows .mixedOrders = true) (hO : CallOk P call) (hM : MonoCall call) (hS : CallSound P call) :
    ∀ {c : Code} {E : Env} {h : H} {k : K R} {φ : Phi} {a : Act} {w : World} {Q : Exit → Act → World → Prop}, evC P call nt N c E h k = some r → (∀ ex E' h', k ex E' h' = some r → h'.next ≤ M) → ERel P φ E a nt → Rel P φ h w → Fresh φ h.next M →
      GoesOn P nt φ h w k r Q → c.wp P Q a w
  | .skip, E, h, k, φ, a, w, Q, he, hk, hE, hR, hF, hn => wp_skip (hn .norm φ E a h w (by simpa only [evC] using he) hE hR (Keep.refl _ _ _))
  | .label _, E, h, k, φ, a, w, Q, he, hk, hE, hR, hF, hn => wp_label (hn .norm φ E a h w (by simpa only [evC] using he) hE hR (Keep.refl _ _ _))
  | .region id ops draw, E, h, k, φ, a, w, Q, he, hk, hE, hR, hF, hn => by
    simp only [evC] at he
    split at he
    · rename_i hok
      cases draw with
      | true =>
        simp only [if_true] at he
        split at he
        · rename_i hd
          exact sound_draw hm hO hM hS hok hd hE hR hF he (fun E' h' => hk _ _ _) fun φ' E' a' h' w' he' hE' hR' hK' => hn .norm φ' E' a' h' w' he' hE' hR' hK'
        · cases he
      | false =>
        simp only [Bool.false_eq_true, if_false] at he
        exact wp_region_list (sound_ops hO hM hS hok (fun o ho => ho) hE hR hF he (fun E' h' => hk _ _ _) fun φ' E' a' h' w' he' hE' hR' hK' => hn .norm φ' E' a' h' w' he' hE' hR' hK')
    · cases he
  | .seq x y, E, h, k, φ, a, w, Q, he, hk, hE, hR, hF, hn => by
    simp only [evC] at he
    refine wp_seq (sound_code hm hO hM hS he ?_ hE hR hF ?_)
    · intro ex E' h' he'
      cases ex with
      | norm => exact evC_next hM he' hk
      | exit i => exact hk _ _ _ he'
      | goto l => exact hk _ _ _ he'
      | ret => exact hk _ _ _ he'
    · intro ex φ' E' a' h' w' he' hE' hR' hK'
      cases ex with
      | norm =>
        exact sound_code hm hO hM hS he' hk hE' hR' (hF.right hK') fun ex2 φ2 E2 a2 h2 w2 he2 hE2 hR2 hK2 => hn ex2 φ2 E2 a2 h2 w2 he2 hE2 hR2 (hK'.trans hK2)
      | exit i => exact hn (.exit i) φ' E' a' h' w' he' hE' hR' hK'
      | goto l => exact hn (.goto l) φ' E' a' h' w' he' hE' hR' hK'
      | ret => exact hn .ret φ' E' a' h' w' he' hE' hR' hK'
  | .cond c x y, E, h, k, φ, a, w, Q, he, hk, hE, hR, hF, hn => by
    simp only [evC] at he
    split at he
    · rename_i hoc
      unfold condV at he
      split at he
      · rename_i t ht
        have hr := opv_rel hE hoc
        rw [ht] at hr
        refine wp_cond (relV_B.1 hr) ?_
        cases t with
        | true => exact sound_code hm hO hM hS (by simpa using he) hk hE hR hF hn
        | false => exact sound_code hm hO hM hS (by simpa using he) hk hE hR hF hn
      · cases he
    · cases he
  | .block id c, E, h, k, φ, a, w, Q, he, hk, hE, hR, hF, hn => by
    simp only [evC] at he
    refine wp_block (sound_code hm hO hM hS he ?_ hE hR hF ?_)
    · intro ex E' h' he'
      cases ex with
      | norm => exact hk _ _ _ he'
      | exit i => simp only at he'; split at he' <;> exact hk _ _ _ he'
      | goto l => exact hk _ _ _ he'
      | ret => exact hk _ _ _ he'
    · intro ex φ' E' a' h' w' he' hE' hR' hK'
      cases ex with
      | norm => exact hn .norm φ' E' a' h' w' he' hE' hR' hK'
      | exit i =>
        simp only at he'
        simp only [Ex.out, Exit.inBlock]
        split at he'
        · rename_i e
          rw [if_pos e]
          exact hn .norm φ' E' a' h' w' he' hE' hR' hK'
        · rename_i e
          rw [if_neg e]
          exact hn (.exit i) φ' E' a' h' w' he' hE' hR' hK'
      | goto l => exact hn (.goto l) φ' E' a' h' w' he' hE' hR' hK'
      | ret => exact hn .ret φ' E' a' h' w' he' hE' hR' hK'
  | .loop c, E, h, k, φ, a, w, Q, he, hk, hE, hR, hF, hn => by
    simp only [evC] at he
    exact wp_loop_rounds N (sound_iter hM (fun he hk hE hR hF hn => sound_code hm hO hM hS he hk hE hR hF hn) he hk hE hR hF hn)
  | .exit id, E, h, k, φ, a, w, Q, he, hk, hE, hR, hF, hn => wp_exit (hn (.exit id) φ E a h w (by simpa only [evC] using he) hE hR (Keep.refl _ _ _))
  | .goto l, E, h, k, φ, a, w, Q, he, hk, hE, hR, hF, hn => wp_goto (hn (.goto l) φ E a h w (by simpa only [evC] using he) hE hR (Keep.refl _ _ _))
  | .ret, E, h, k, φ, a, w, Q, he, hk, hE, hR, hF, hn => wp_ret (hn .ret φ E a h w (by simpa only [evC] using he) hE hR (Keep.refl _ _ _))
  | .rangeFunc .., _, _, _, _, _, _, _, he, _, _, _, _, _ => by simp [evC] at he
  | .scope _, _, _, _, _, _, _, _, he, _, _, _, _, _ => by simp [evC] at he
  | .refuse _, _, _, _, _, _, _, _, he, _, _, _, _, _ => by simp [evC] at he

end
end Go.Proofs.YtdnomnhelhbniaaGreat.AM
