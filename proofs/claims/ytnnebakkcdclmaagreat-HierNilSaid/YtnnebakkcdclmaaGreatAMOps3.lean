/-
  Proved here, for every program: a part of the soundness of an abstract machine against the model: lemmas. Conditions: none.
-/
import Derived.Test.YtnnebakkcdclmaaGreatAMOps2
namespace Go.Proofs.YtnnebakkcdclmaaGreat.AM
section
variable {P : Program} {φ : Phi} {w : World}

theorem info_of_isSome {t : TypeId} (h : (P.info? t).isSome = true) : ∃ i, P.info? t = some i := Option.isSome_iff_exists.1 h
theorem run_sizeOf' {t : TypeId} (h : (P.info? t).isSome = true) : (sizeOf t).run P w = .ok (P.cellsOf t) w := by
  obtain ⟨i, hi⟩ := info_of_isSome h
  exact run_sizeOf w hi

theorem add_eq (b o n : Nat) : (⟨b, o, none⟩ : Addr).add n = ⟨b, o + n, none⟩ := by
  unfold Addr.add; split <;> simp_all

theorem underlying_struct {s : TypeId} {fs : List Field} (h : fieldsOf P (P.underlyingId s) = some fs) : ∃ gs : Array Field, P.underlying s = some (.struct gs) ∧ gs.toList = fs := by
  unfold fieldsOf Program.underlyingId at h
  unfold Program.underlying
  cases hi : P.info? s with
  | none => simp [hi] at h
  | some i =>
    obtain ⟨d, _⟩ := i
    cases d <;> simp [hi] at h ⊢
    case struct gs => exact h
    case named n u =>
      cases hu : P.info? u with
      | none => simp [hu] at h
      | some j =>
        obtain ⟨d, _⟩ := j
        cases d <;> simp [hu] at h ⊢
        exact h

theorem run_slcOf {t : TypeId} {x v : V} {lo hi mx : Option V} {a : Value} {xl xh xm : Option Value} (h : slcOf P t x lo hi mx = some v) (ra : relV P φ x a)
    (rl : relO P φ lo xl) (rh : relO P φ hi xh) (rm : relO P φ mx xm) : ∃ z, (Instr.sliceAt t a xl xh xm).run P w = .ok z w ∧ relV P φ v z := by
  unfold slcOf at h
  split at h
  · rename_i n e hu
    split at h
    · rename_i hi'
      unfold slcA at h
      split at h
      · rename_i l0 h0 m0 b p el eh em
        simp only [Option.map_eq_some_iff] at h
        obtain ⟨⟨l, hh, m⟩, hb, hv⟩ := h
        obtain ⟨k1, k2, k3, k4, k5⟩ := run_sliceBounds (w := w) hb el eh em rl rh rm (Nat.le_refl n) false
        obtain ⟨L, hL, rfl⟩ := relV_P.1 ra
        have hm : (if m0.isSome = true then m else n) = m := by
          cases m0 with
          | none => simp [k5 rfl]
          | some _ => simp
        rw [hm] at k1
        refine ⟨_, by simp only [Instr.sliceAt, Sem.run_bind, run_underlying hu, Result.andThen_ok, Instr.sureAddr, Sem.run_pure, k1, run_sizeOf' hi']; rfl, ?_⟩
        by_cases e' : m = l
        · simp only [e', if_true] at hv ⊢
          subst hv
          exact relV_Lmk ⟨L, _, _, hL, rfl, by omega, .inl (by simp), by simp⟩
        · simp only [if_neg e', add_eq] at hv ⊢
          subst hv
          exact relV_Lmk ⟨L, _, _, hL, rfl, by omega, .inl rfl, by simp⟩
      · cases h
    · cases h
  · rename_i e hu
    split at h
    · rename_i hi'
      unfold slc at h
      split at h
      · rename_i l0 h0 m0 el eh em
        split at h
        · simp only [Option.map_eq_some_iff] at h
          obtain ⟨⟨l, hh, m⟩, hb, hv⟩ := h
          subst hv
          obtain ⟨k1, k2, k3, k4, k5⟩ := run_sliceBounds (w := w) hb el eh em rl rh rm (Nat.le_refl 0) true
          obtain rfl := relV_L0.1 ra
          refine ⟨_, by simp only [Instr.sliceAt, Instr.slice, Sem.run_bind, run_underlying hu, Result.andThen_ok, Sem.run_pure, k1, run_sizeOf' hi']; rfl, ?_⟩
          obtain rfl : l = 0 := by omega
          obtain rfl : hh = 0 := by omega
          obtain rfl : m = 0 := by omega
          cases m0 <;> exact relV_L0.2 (by simp)
        · rename_i b p t' s n c op
          split at h
          · rename_i ht
            subst ht
            simp only [Option.map_eq_some_iff] at h
            obtain ⟨⟨l, hh, m⟩, hb, hv⟩ := h
            obtain ⟨L, off, c', hL, rfl, hnc, hoff, hcap⟩ | ⟨rfl, rfl, rfl, a0, rfl⟩ := relV_L.1 ra
            case inr =>
              obtain ⟨k1, k2, k3, k4, k5⟩ := run_sliceBounds (w := w) hb el eh em rl rh rm (Nat.le_refl 0) true
              refine ⟨_, by simp only [Instr.sliceAt, Instr.slice, Sem.run_bind, run_underlying hu, Result.andThen_ok, Sem.run_pure, k1, run_sizeOf' hi']; rfl, ?_⟩
              obtain rfl : l = 0 := by omega
              obtain rfl : hh = 0 := by omega
              obtain rfl : m = 0 := by omega
              cases m0 with
              | some m0 =>
                simp only [Option.isSome_some, if_true] at hv
                subst hv
                exact relV_L.2 (.inr ⟨rfl, rfl, rfl, _, rfl⟩)
              | none =>
                simp only [Option.isSome_none, Bool.false_eq_true, if_false, if_true] at hv
                subst hv
                exact relV_L.2 (.inr ⟨rfl, rfl, rfl, _, by simp; rfl⟩)
            have hcc : c ≤ c' := by
              split at hcap
              · exact hcap.1
              · omega
            obtain ⟨k1, k2, k3, k4, k5⟩ := run_sliceBounds (w := w) hb el eh em rl rh rm hcc true
            refine ⟨_, by simp only [Instr.sliceAt, Instr.slice, Sem.run_bind, run_underlying hu, Result.andThen_ok, Sem.run_pure, k1, run_sizeOf' hi']; rfl, ?_⟩
            simp only [Option.map_some, add_eq]
            cases m0 with
            | some m0 =>
              simp only [Option.isSome_some, if_true] at hv ⊢
              by_cases e' : m = l
              · simp only [e', if_true] at hv ⊢
                subst hv
                refine relV_Lmk ⟨L, off, _, hL, rfl, by omega, ?_, by simp⟩
                rcases hoff with h1 | ⟨h1, h2⟩
                · exact .inl h1
                · exact .inr ⟨by omega, by omega⟩
              · simp only [if_neg e'] at hv ⊢
                subst hv
                refine relV_Lmk ⟨L, _, _, hL, rfl, by omega, ?_, by simp⟩
                rcases hoff with h1 | ⟨h1, h2⟩
                · exact .inl (by rw [h1, Nat.add_mul]; omega)
                · omega
            | none =>
              obtain rfl := k5 rfl
              simp only [Option.isSome_none, Bool.false_eq_true, if_false] at hv ⊢
              by_cases e' : l = m
              · simp only [e', if_true] at hv
                obtain rfl : hh = l := by omega
                subst e'
                by_cases ho : op = true
                · subst ho
                  simp only [if_true] at hv hcap
                  subst hv
                  by_cases e2 : c' = hh
                  · simp only [e2, if_true]
                    refine relV_Lmk ⟨L, off, _, hL, by rw [Nat.sub_self], by omega, .inr ⟨rfl, rfl⟩, ?_⟩
                    simp only [if_true]
                    refine ⟨by omega, ?_⟩
                    have := hcap.2
                    simp; omega
                  · simp only [if_neg e2]
                    refine relV_Lmk ⟨L, _, _, hL, by rw [Nat.sub_self], by omega, .inr ⟨rfl, rfl⟩, ?_⟩
                    simp only [if_true]
                    refine ⟨by omega, ?_⟩
                    have h2 := hcap.2
                    have h3 : hh * P.cellsOf t' + (c' - hh) * P.cellsOf t' = c' * P.cellsOf t' := by rw [← Nat.add_mul]; congr 1; omega
                    omega
                · simp only [ho, if_false, Bool.false_eq_true] at hv hcap
                  subst hv
                  subst hcap
                  simp only [if_true, Nat.sub_self]
                  refine relV_Lmk ⟨L, off, _, hL, rfl, by omega, ?_, by simp⟩
                  rcases hoff with h1 | ⟨h1, h2⟩
                  · exact .inl h1
                  · exact .inr ⟨rfl, rfl⟩
              · simp only [if_neg e'] at hv
                subst hv
                have hoff' : off = L.base + offs P p + s * P.cellsOf t' := by
                  rcases hoff with h1 | ⟨h1, h2⟩
                  · exact h1
                  · omega
                have e2 : ¬ c' = l := by omega
                simp only [if_neg e2]
                refine relV_Lmk ⟨L, _, _, hL, rfl, by omega, .inl (by rw [hoff', Nat.add_mul]; omega), ?_⟩
                by_cases ho : op = true
                · simp only [ho, if_true] at hcap ⊢
                  have h3 : l * P.cellsOf t' + (c' - l) * P.cellsOf t' = c' * P.cellsOf t' := by rw [← Nat.add_mul]; congr 1; omega
                  omega
                · simp only [ho, if_false, Bool.false_eq_true] at hcap ⊢
                  omega
          · cases h
        · cases h
      · cases h
    · cases h
  · rename_i hu
    split at h
    · cases h
    · rename_i hmx
      have hmx' : mx = none := by cases mx <;> simp_all
      subst hmx'
      cases xm with
      | some _ => exact rm.elim
      | none =>
        unfold slcStr at h
        split at h
        · rename_i l0 h0 s el eh
          simp only [Option.map_eq_some_iff] at h
          obtain ⟨⟨l, hh, m⟩, hb, hv⟩ := h
          subst hv
          obtain ⟨k1, k2, k3, k4, k5⟩ := run_sliceBounds (w := w) (vm := none) (xm := none) hb el eh rfl rl rh trivial (Nat.le_refl _) false
          obtain rfl := relV_S.1 ra
          refine ⟨_, by simp only [Instr.sliceAt, Instr.slice, Sem.run_bind, run_underlying hu, Result.andThen_ok, Sem.run_pure, Option.isSome_none, Bool.false_eq_true, if_false, k1], relV_S.2 rfl⟩
        · cases h
  · cases h

theorem run_fldAOf {s : TypeId} {x v : V} {i : Nat} {a : Value} (h : fldAOf P s x i = some v) (ra : relV P φ x a) : ∃ z, (Instr.fieldAt s a i).run P w = .ok z w ∧ relV P φ v z := by
  unfold fldAOf at h
  split at h
  · rename_i u fs hk hf
    split at h
    · rename_i hu
      subst hu
      split at h
      · rename_i f hi
        split at h
        · cases h
        · rename_i hz
          cases x <;> first | (simp [fldA] at h; done) | skip
          rename_i b p
          simp only [fldA, Option.some.injEq] at h
          subst h
          obtain ⟨L, hL, rfl⟩ := relV_P.1 ra
          obtain ⟨gs, hgs, he⟩ := underlying_struct hf
          subst he
          have hfi : gs[i]? = some f := by simpa using hi
          have hif : (P.info? f.type).isSome = true := by
            cases h : P.info? f.type with
            | none => simp [Program.cellsOf, h] at hz
            | some _ => rfl
          refine ⟨_, by simp only [Instr.fieldAt, Sem.run_bind, run_underlying hgs, Result.andThen_ok, hfi, Instr.sureAddr, Sem.run_pure, fieldPlace, run_sizeOf' hif, if_neg hz]; rfl, ?_⟩
          rw [add_eq]
          refine relV_P.2 ⟨L, hL, ?_⟩
          rw [offs_append]
          simp [offs, offOf, hf, hfi, Nat.add_assoc]
      · cases h
    · cases h
  · cases h

end
end Go.Proofs.YtnnebakkcdclmaaGreat.AM
