/-
  Proved here, for every program: a part of the soundness of an abstract machine against the model: what the abstract machine says of a function, the model does: 'evF_sound'. Conditions: none.
-/
import Derived.Test.YtnnebakkcdclmaaGreatAMCode
namespace Go.Proofs.YtnnebakkcdclmaaGreat.AM
section
variable {P : Program} {call : CallT} {nt N M : Nat} {φ : Phi} {h : H} {w : World}

def resOf (tmps : Array Value) : ResultVar → Sem Value
  | .tmp t => pure (tmps.getD t undef)
  | .cell b t => do loadVar t (← asAddr (tmps.getD b undef))

theorem results_eq (fn : Func) (tmps : Array Value) : results fn tmps = (do
  let vs ← fn.results.mapM (resOf tmps)
  pure (if h : vs.size = 1 then vs[0] else .tuple vs)) := by
  unfold results
  have : (fun (x : ResultVar) => match x with
    | .tmp t => (pure (tmps.getD t undef) : Sem Value)
    | .cell a t => do loadVar t (← asAddr (tmps.getD a undef))) = resOf tmps := by
    funext x; cases x <;> rfl
  rw [← this]
  rfl

theorem run_results {E : Env} {a : Act} {nt : Nat} (r : ERel P φ E a nt) (R : Rel P φ h w) : ∀ {rs : List ResultVar} {vs : List V}, rs.all (resOk nt) = true → evR P E h rs = some vs →
    ∃ xs, (rs.mapM (resOf a.tmps)).run P w = .ok xs w ∧ relVs P φ vs xs
  | [], vs, _, he => by
    simp only [evR, Option.some.injEq] at he
    subst he
    exact ⟨[], rfl, relVs_nil.2 rfl⟩
  | .tmp t :: rs, vs, hok, he => by
    simp only [evR, Option.map_eq_some_iff] at he
    obtain ⟨us, he, rfl⟩ := he
    simp only [List.all_cons, Bool.and_eq_true, resOk, decide_eq_true_eq] at hok
    obtain ⟨xs, hx, rx⟩ := run_results r R hok.2 he
    refine ⟨a.tmps.getD t undef :: xs, ?_, relVs_cons.2 ⟨_, _, rfl, r.at_ t hok.1, rx⟩⟩
    simp only [List.mapM_cons, resOf, Sem.run_bind, Sem.run_pure, Result.andThen_ok, hx]
  | .cell b t :: rs, vs, hok, he => by
    simp only [evR] at he
    split at he
    · rename_i k hk
      simp only [Option.bind_eq_some_iff, Option.map_eq_some_iff] at he
      obtain ⟨v, hv, us, he, rfl⟩ := he
      simp only [List.all_cons, Bool.and_eq_true, resOk, decide_eq_true_eq] at hok
      obtain ⟨xs, hx, rx⟩ := run_results r R hok.2 he
      obtain ⟨z, hz, rz⟩ := run_ld hk R hv (r.at_ b hok.1)
      refine ⟨z :: xs, ?_, relVs_cons.2 ⟨_, _, rfl, rz, rx⟩⟩
      have hz' : (resOf a.tmps (.cell b t)).run P w = .ok z w := by
        show ((do loadVar t (← asAddr (a.tmps.getD b undef))) : Sem Value).run P w = .ok z w
        unfold Instr.loadAt at hz
        revert hz
        generalize a.tmps.getD b undef = q
        intro hz
        cases q with
        | pointer p =>
          cases p with
          | some l => exact hz
          | none => cases hz
        | _ => cases hz
      simp only [List.mapM_cons]
      rw [Sem.run_bind, hz']
      simp only [Result.andThen_ok, Sem.run_bind, hx, Sem.run_pure]
    · cases he

theorem relVs_length : ∀ {vs : List V} {xs : List Value}, relVs P φ vs xs → vs.length = xs.length
  | [], xs, r => by rw [relVs_nil] at r; subst r; rfl
  | v :: vs, xs, r => by
    obtain ⟨x, ys, rfl, _, rys⟩ := relVs_cons.1 r
    simp [relVs_length rys]

theorem sound_results {E : Env} {a : Act} {nt : Nat} (r : ERel P φ E a nt) (R : Rel P φ h w) {fn : Func} {vs : List V} (hok : fn.results.toList.all (resOk nt) = true) (he : evR P E h fn.results.toList = some vs) :
    ∃ x, (results fn a.tmps).run P w = .ok x w ∧ relV P φ (retV vs) x := by
  obtain ⟨xs, hx, rx⟩ := run_results r R hok he
  have hm : (fn.results.mapM (resOf a.tmps)).run P w = .ok xs.toArray w := by
    rw [Array.mapM_eq_mapM_toList, Sem.run_map, hx]
    rfl
  refine ⟨if h : xs.toArray.size = 1 then xs.toArray[0] else .tuple xs.toArray, ?_, ?_⟩
  · rw [results_eq, Sem.run_bind, hm]
    rfl
  · unfold retV
    split
    · rename_i v
      obtain ⟨x, ys, rfl, rv, rys⟩ := relVs_cons.1 rx
      rw [relVs_nil] at rys; subst rys
      simpa using rv
    · rename_i hne
      rw [dif_neg]
      · exact relV_T.2 ⟨xs, rfl, rx⟩
      · intro h1
        have h1' : xs.length = 1 := by simpa using h1
        have := relVs_length rx
        match vs, hne with
        | [], _ => simp at this; omega
        | [v], hne => exact hne v rfl
        | _ :: _ :: _, _ => simp at this; omega

theorem erel_args {vs : List V} {xs : List Value} (r : relVs P φ vs xs) {nt : Nat} (hl : vs.length ≤ nt) :
    ERel P φ (fun t => vs.getD t dd) { tmps := xs.toArray ++ Array.replicate (nt - xs.toArray.size) undef, defers := [] } nt := by
  have hlen := relVs_length r
  refine ⟨by simp; omega, rfl, fun t ht => ?_⟩
  have key : ∀ {vs : List V} {xs : List Value} {t : Nat}, relVs P φ vs xs → relV P φ (vs.getD t dd) (xs.getD t undef) := by
    intro vs
    induction vs with
    | nil => intro xs t r; rw [relVs_nil] at r; subst r; simpa using relV_dd
    | cons v vs ih =>
      intro xs t r
      obtain ⟨x, ys, rfl, rv, rys⟩ := relVs_cons.1 r
      cases t with
      | zero => simpa using rv
      | succ t => simpa using ih (t := t) rys
  have := key (t := t) r
  simp only [Array.getD_eq_getD_getElem?, Array.getElem?_append, List.size_toArray]
  rw [List.getD_eq_getElem?_getD (l := xs)] at this
  split
  · simpa using this
  · rename_i hge
    rw [List.getElem?_eq_none (by omega)] at this
    have : ((Array.replicate (nt - xs.length) undef)[t - xs.length]?).getD undef = undef := by
      rw [Array.getElem?_replicate]; split <;> rfl
    rw [this]
    simpa using ‹relV P φ (vs.getD t dd) _›

theorem sound_fn (hm : P.follows .mixedOrders = true) (hO : CallOk P call) (hM : MonoCall call) (hS : CallSound P call) {f : FuncId} {fn : Func} (hf : P.funcs[f]? = some fn) {vs : List V} {v : V} {h' : H} {xs : List Value}
    (he : evB P call N fn vs h = some (v, h')) (hR : Rel P φ h w) (hF : Fresh φ h.next h'.next) (rx : relVs P φ vs xs) :
    Calls P f (List.toArray xs) w fun e w' => ∃ φ' x, e = .returned x ∧ Rel P φ' h' w' ∧ Keep φ h w φ' h' w' ∧ relV P φ' v x := by
  unfold evB at he
  split at he
  · rename_i c hb
    split at he
    · rename_i hc
      simp only [Bool.and_eq_true, decide_eq_true_eq] at hc
      refine calls_of_wp hf hb (sound_code hm hO hM hS he (M := h'.next) ?_ (erel_args rx hc.1.1) hR hF ?_)
      · intro ex E' h1 he'
        cases ex <;> simp only at he' <;> first | (cases he'; done) | skip
        all_goals
          simp only [Option.map_eq_some_iff, Prod.mk.injEq] at he'
          obtain ⟨_, _, _, rfl⟩ := he'
          exact Nat.le_refl _
      · intro ex φ' E' a' h1 w' he' hE' hR' hK'
        cases ex <;> simp only at he' <;> first | (cases he'; done) | skip
        all_goals
          simp only [Option.map_eq_some_iff, Prod.mk.injEq] at he'
          obtain ⟨us, hus, rfl, rfl⟩ := he'
          obtain ⟨x, hx, rx'⟩ := sound_results hE' hR' hc.1.2 hus
          exact ⟨hE'.df, x, hx, φ', x, rfl, hR', hK', rx'⟩
    · cases he
  · cases he

theorem evF_ok {N : Nat} : ∀ d, CallOk P (evF P N d)
  | 0 => fun f args h r he => by simp [evF] at he
  | d + 1 => fun f args h r he => by
    simp only [evF] at he
    split at he
    · rename_i fn hf
      refine ⟨fn, hf, ?_⟩
      unfold evB at he
      split at he
      · rename_i c hb
        split at he
        · rename_i hc
          simp only [Bool.and_eq_true, Bool.not_eq_true'] at hc
          exact ⟨by simp [hb], hc.2⟩
        · cases he
      · cases he
    · cases he

/-- What the machine says of a function, the model does. -/
theorem evF_sound (hm : P.follows .mixedOrders = true) {N : Nat} : ∀ d, CallSound P (evF P N d)
  | 0 => fun f vs h v h' he => by simp [evF] at he
  | d + 1 => fun f vs h v h' he φ w xs R F rx => by
    simp only [evF] at he
    split at he
    · rename_i fn hf
      exact sound_fn hm (evF_ok d) (evF_next d) (evF_sound hm d) hf he R F rx
    · cases he

end
end Go.Proofs.YtnnebakkcdclmaaGreat.AM
