/-
  Proved here, for every program: a part of the soundness of an abstract machine against the model: lemmas. Conditions: none.
-/
import Derived.Test.YtnnebakkcdclmaaGreatAMDef
namespace Go.Proofs.YtnnebakkcdclmaaGreat.AM
/-! Blocks' numbers only grow. -/
section
variable {P : Program}

theorem H.next_new' (h : H) (x : Blk) : (h.new x).next = h.next + 1 := rfl

theorem sto_next {k : LK} {a x : V} {h h' : H} (e : sto k a x h = some h') : h'.next = h.next := by
  unfold sto at e
  repeat' split at e
  all_goals first | (cases e; rfl) | cases e

theorem mup_next {m k x : V} {h h' : H} (e : mup m k x h = some h') : h'.next = h.next := by
  unfold mup at e
  repeat' split at e
  all_goals first | (cases e; rfl) | cases e
theorem mupA_next {a : AK} {m k x : V} {h h' : H} (e : mupA a m k x h = some h') : h'.next = h.next := by
  unfold mupA at e
  repeat' split at e
  all_goals first
    | (cases e; done)
    | (simp only [Option.some.injEq] at e; subst e; rfl)
theorem mdel_next {m k : V} {h h' : H} (e : mdel m k h = some h') : h'.next = h.next := by
  unfold mdel at e
  repeat' split at e
  all_goals first | (cases e; rfl) | cases e
theorem mclr_next {m : V} {h h' : H} (e : mclr m h = some h') : h'.next = h.next := by
  unfold mclr at e
  repeat' split at e
  all_goals first | (cases e; rfl) | cases e

theorem app_next {e : Nat} {k : LK} {x y v : V} {h h' : H} (he : app e k x y h = some (v, h')) : h.next ≤ h'.next := by
  unfold app at he
  split at he
  · cases he
  · split at he
    · cases he
    · split at he
      · split at he
        · cases he; exact Nat.le_refl _
        · split at he
          · cases he
          · cases he; exact Nat.le_succ _
      · split at he
        · cases he
        · split at he
          · cases he; exact Nat.le_refl _
          · split at he
            · repeat' split at he
              all_goals first | (cases he; exact Nat.le_refl _) | cases he
            · split at he
              · cases he
              · split at he
                · cases he
                · split at he
                  · split at he
                    · split at he
                      · simp only [Option.some.injEq, Prod.mk.injEq] at he
                        obtain ⟨_, rfl⟩ := he
                        exact Nat.le_succ _
                      · cases he
                    · cases he
                  · cases he
                    exact Nat.le_succ _
      · cases he

theorem cpy_next {e : Nat} {k : LK} {x y v : V} {h h' : H} (he : cpy e k x y h = some (v, h')) : h.next ≤ h'.next := by
  unfold cpy at he
  split at he
  · dsimp only at he
    split at he
    · cases he
    · split at he
      · cases he; exact Nat.le_refl _
      · repeat' split at he
        all_goals first | (cases he; exact Nat.le_refl _) | cases he
      · cases he
  · cases he

def MonoCall (call : CallT) : Prop := ∀ f vs h v h', call f vs h = some (v, h') → h.next ≤ h'.next

theorem evE_next {call : CallT} (hC : MonoCall call) {E : Env} {h h' : H} {o : Oper} {v : V} (he : evE P call E h o = some (v, h')) : h.next ≤ h'.next := by
  unfold evE at he
  split at he
  case h_1 =>
    split at he
    · simp only [Option.map_eq_some_iff, Prod.mk.injEq] at he
      obtain ⟨h1, hs, _, rfl⟩ := he
      exact Nat.le_of_eq (sto_next hs).symm
    · cases he
  case h_2 =>
    repeat' split at he
    all_goals first
      | (cases he; done)
      | (simp only [Option.map_eq_some_iff, Prod.mk.injEq] at he
         obtain ⟨h1, hs, _, rfl⟩ := he
         first | exact Nat.le_of_eq (mup_next hs).symm | exact Nat.le_of_eq (mupA_next hs).symm)
  case h_3 =>
    repeat' split at he
    all_goals first
      | (cases he; done)
      | (simp only [Option.map_eq_some_iff, Prod.mk.injEq] at he
         obtain ⟨h1, hs, _, rfl⟩ := he
         first | exact Nat.le_of_eq (mup_next hs).symm | exact Nat.le_of_eq (mupA_next hs).symm)
  case h_4 =>
    split at he
    · split at he
      · exact hC _ _ _ _ _ he
      · cases he
    · repeat' split at he
      all_goals first | (exact hC _ _ _ _ _ he) | cases he
    · repeat' split at he
      all_goals first | (exact app_next he) | cases he
    · repeat' split at he
      all_goals first | (exact cpy_next he) | cases he
    · repeat' split at he
      all_goals first
        | (cases he; done)
        | (simp only [Option.map_eq_some_iff, Prod.mk.injEq] at he
           obtain ⟨h1, hs, _, rfl⟩ := he
           exact Nat.le_of_eq (mdel_next hs).symm)
    · repeat' split at he
      all_goals first
        | (cases he; done)
        | (simp only [Option.map_eq_some_iff, Prod.mk.injEq] at he
           obtain ⟨h1, hs, _, rfl⟩ := he
           exact Nat.le_of_eq (mclr_next hs).symm)
    · cases he
  case h_5 => cases he

theorem gE_next {w : Bool} {h h' : H} {x : Unit → Option (V × H)} {v : V} (hx : ∀ v h', x () = some (v, h') → h.next ≤ h'.next) (he : gE w h x = some (v, h')) : h.next ≤ h'.next := by
  unfold gE at he
  split at he
  · exact hx _ _ he
  · cases he; exact Nat.le_refl _

theorem mkB_next {h h' : H} {x : Option (Blk × Mk)} {v : V} (he : mkB h x = some (v, h')) : h.next ≤ h'.next := by
  unfold mkB at he
  split at he
  · cases he; exact Nat.le_succ _
  · cases he

section
variable {R : Type} {call : CallT} {nt N : Nat} {M : Nat} {r : R}

theorem evOp_next (hC : MonoCall call) {ops : List Oper} {o : Oper} {E : Env} {h : H} {k : Env → H → Option R} (he : evOp P call nt ops o E h k = some r) (hk : ∀ E' h', k E' h' = some r → h'.next ≤ M) : h.next ≤ M := by
  unfold evOp at he
  split at he
  · simp only [Option.bind_eq_some_iff] at he
    obtain ⟨v, _, he⟩ := he
    exact hk _ _ he
  · simp only [Option.bind_eq_some_iff] at he
    obtain ⟨v, _, he⟩ := he
    exact hk _ _ he
  · simp only [Option.bind_eq_some_iff] at he
    obtain ⟨⟨v, h1⟩, h2, he⟩ := he
    exact Nat.le_trans (gE_next (fun _ _ => mkB_next) h2) (hk _ _ he)
  · simp only [Option.bind_eq_some_iff] at he
    obtain ⟨⟨v, h1⟩, h2, he⟩ := he
    exact Nat.le_trans (gE_next (fun _ _ => evE_next hC) h2) (hk _ _ he)
  · cases he

theorem evOps_next (hC : MonoCall call) {ops : List Oper} : ∀ {os : List Oper} {E : Env} {h : H} {k : Env → H → Option R}, evOps P call nt ops os E h k = some r → (∀ E' h', k E' h' = some r → h'.next ≤ M) → h.next ≤ M
  | [], E, h, k, he, hk => hk _ _ he
  | o :: os, E, h, k, he, hk => by
    simp only [evOps] at he
    exact evOp_next hC he fun E' h' he' => evOps_next hC he' hk

theorem evDraw_next (hC : MonoCall call) {ops : List Oper} {an : List Nat} : ∀ {is : List Nat} {rs : List Rd} {E : Env} {hs h : H} {k : Env → H → Option R}, evDraw P call nt ops an is rs E hs h k = some r → (∀ E' h', k E' h' = some r → h'.next ≤ M) → h.next ≤ M
  | [], rs, E, hs, h, k, he, hk => hk _ _ he
  | i :: is, rs, E, hs, h, k, he, hk => by
    simp only [evDraw] at he
    split at he
    · cases he
    · split at he
      · simp only [Option.bind_eq_some_iff] at he
        obtain ⟨v, _, he⟩ := he
        exact evDraw_next hC he hk
      · simp only [Option.bind_eq_some_iff] at he
        obtain ⟨v, _, he⟩ := he
        exact evDraw_next hC he hk
      · simp only [Option.bind_eq_some_iff] at he
        obtain ⟨⟨v, h1⟩, h2, he⟩ := he
        exact Nat.le_trans (gE_next (fun _ _ => mkB_next) h2) (evDraw_next hC he hk)
      · simp only [Option.bind_eq_some_iff] at he
        obtain ⟨⟨v, h1⟩, h2, _, _, he⟩ := he
        exact Nat.le_trans (gE_next (fun _ _ => evE_next hC) h2) (evDraw_next hC he hk)
      · cases he

theorem iter_next {body : Env → H → K R → Option R} (hb : ∀ {E h k}, body E h k = some r → (∀ ex E' h', k ex E' h' = some r → h'.next ≤ M) → h.next ≤ M) :
    ∀ {n : Nat} {E : Env} {h : H} {k : K R}, iter body n E h k = some r → (∀ ex E' h', k ex E' h' = some r → h'.next ≤ M) → h.next ≤ M
  | 0, _, _, _, he, _ => by cases he
  | n + 1, E, h, k, he, hk => by
    simp only [iter] at he
    refine hb he fun ex E' h' he' => ?_
    cases ex with
    | norm => exact iter_next hb he' hk
    | exit i => exact hk _ _ _ he'
    | goto l => exact hk _ _ _ he'
    | ret => exact hk _ _ _ he'

theorem jumps_next {l : Nat} {body : Env → H → K R → Option R} (hb : ∀ {E h k}, body E h k = some r → (∀ ex E' h', k ex E' h' = some r → h'.next ≤ M) → h.next ≤ M) :
    ∀ {n : Nat} {E : Env} {h : H} {k : K R}, jumps l body n E h k = some r → (∀ ex E' h', k ex E' h' = some r → h'.next ≤ M) → h.next ≤ M
  | 0, _, _, _, he, _ => by cases he
  | n + 1, E, h, k, he, hk => by
    simp only [jumps] at he
    refine hb he fun ex E' h' he' => ?_
    cases ex with
    | norm => exact hk _ _ _ he'
    | exit i => exact hk _ _ _ he'
    | goto l' =>
      simp only at he'
      split at he'
      · exact jumps_next hb he' hk
      · cases he'
    | ret => exact hk _ _ _ he'

mutual
theorem evC_next (hC : MonoCall call) : ∀ {c : Code} {E : Env} {h : H} {k : K R}, evC P call nt N c E h k = some r → (∀ ex E' h', k ex E' h' = some r → h'.next ≤ M) → h.next ≤ M
  | .skip, E, h, k, he, hk => hk _ _ _ (by simpa only [evC] using he)
  | .label _, E, h, k, he, hk => hk _ _ _ (by simpa only [evC] using he)
  | .region id ops draw, E, h, k, he, hk => by
    simp only [evC] at he
    split at he
    · split at he
      · split at he
        · exact evDraw_next hC he fun E' h' => hk _ _ _
        · cases he
      · exact evOps_next hC he fun E' h' => hk _ _ _
    · cases he
  | .seq a b, E, h, k, he, hk => by
    simp only [evC] at he
    refine evC_next hC he fun ex E' h' he' => ?_
    cases ex with
    | norm => exact evC_next hC he' hk
    | exit i => exact hk _ _ _ he'
    | goto l => exact hk _ _ _ he'
    | ret => exact hk _ _ _ he'
  | .cond c x y, E, h, k, he, hk => by
    simp only [evC] at he
    split at he
    · unfold condV at he
      split at he
      · split at he
        · exact evC_next hC he hk
        · exact evC_next hC he hk
      · cases he
    · cases he
  | .block id c, E, h, k, he, hk => by
    simp only [evC] at he
    refine evC_next hC he fun ex E' h' he' => ?_
    cases ex with
    | norm => exact hk _ _ _ he'
    | exit i => simp only at he'; split at he' <;> exact hk _ _ _ he'
    | goto l => exact hk _ _ _ he'
    | ret => exact hk _ _ _ he'
  | .loop c, E, h, k, he, hk => by
    simp only [evC] at he
    exact iter_next (fun {E h k} he hk => evC_next hC he hk) he hk
  | .exit id, E, h, k, he, hk => hk _ _ _ (by simpa only [evC] using he)
  | .goto l, E, h, k, he, hk => hk _ _ _ (by simpa only [evC] using he)
  | .ret, E, h, k, he, hk => hk _ _ _ (by simpa only [evC] using he)
  | .rangeFunc .., _, _, _, he, _ => by simp [evC] at he
  | .scope c, E, h, k, he, hk => by
    simp only [evC] at he
    refine evC_next hC he fun ex E' h' he' => ?_
    cases ex with
    | norm => exact hk _ _ _ he'
    | exit i => exact hk _ _ _ he'
    | goto l =>
      simp only at he'
      split at he'
      · exact jumps_next (fun {E h k} he hk => evL_next hC he hk) he' hk
      · cases he'
    | ret => exact hk _ _ _ he'
  | .refuse _, _, _, _, he, _ => by simp [evC] at he
theorem evL_next (hC : MonoCall call) {l : Nat} : ∀ {c : Code} {E : Env} {h : H} {k : K R}, evL P call nt N l c E h k = some r → (∀ ex E' h', k ex E' h' = some r → h'.next ≤ M) → h.next ≤ M
  | .seq a b, E, h, k, he, hk => by
    simp only [evL] at he
    split at he
    · refine evL_next hC he fun ex E' h' he' => ?_
      cases ex with
      | norm => exact evC_next hC he' hk
      | exit i => exact hk _ _ _ he'
      | goto l => exact hk _ _ _ he'
      | ret => exact hk _ _ _ he'
    · exact evL_next hC he hk
  | .label _, E, h, k, he, hk => by
    simp only [evL] at he
    split at he
    · exact hk _ _ _ he
    · cases he
  | .skip, _, _, _, he, _ | .region .., _, _, _, he, _ | .cond .., _, _, _, he, _ | .block .., _, _, _, he, _ | .loop _, _, _, _, he, _ | .exit _, _, _, _, he, _ | .goto _, _, _, _, he, _ | .ret, _, _, _, he, _
  | .scope _, _, _, _, he, _ | .rangeFunc .., _, _, _, he, _ | .refuse _, _, _, _, he, _ => by simp [evL] at he
end
end

theorem evF_next {N : Nat} : ∀ d, MonoCall (evF P N d)
  | 0 => fun f vs h v h' he => by simp [evF] at he
  | d + 1 => fun f vs h v h' he => by
    simp only [evF] at he
    split at he
    · unfold evB at he
      split at he
      · split at he
        · refine evC_next (evF_next d) he fun ex E' h1 he' => ?_
          cases ex <;> simp only at he' <;> first | (cases he'; done) | skip
          all_goals
            simp only [Option.map_eq_some_iff, Prod.mk.injEq] at he'
            obtain ⟨_, _, _, rfl⟩ := he'
            exact Nat.le_refl _
        · cases he
      · cases he
    · cases he

end
end Go.Proofs.YtnnebakkcdclmaaGreat.AM
