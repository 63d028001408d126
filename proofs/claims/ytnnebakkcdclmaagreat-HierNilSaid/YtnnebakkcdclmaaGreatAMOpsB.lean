/-
  Proved here, for every program: a part of the soundness of an abstract machine against the model: lemmas. Conditions: none.
-/
import Derived.Test.YtnnebakkcdclmaaGreatAMOpsA
namespace Go.Proofs.YtnnebakkcdclmaaGreat.AM
section
variable {P : Program} {φ : Phi} {w : World} {h : H}

theorem run_cpy {t u ty : TypeId} {e : TypeId} {k : LK} (ht : P.underlying t = some (.slice e)) (hk : kind P e = some k) (R : Rel P φ h w) {x y v : V} {h' : H} {vx vy : Value} (hap : cpy e k x y h = some (v, h')) (rx : relV P φ x vx) (ry : relV P φ y vy) :
    ∃ z w', (Builtin.copy_ #[t, u] ty #[vx, vy]).run P w = .ok z w' ∧ Rel P φ h' w' ∧ Keep φ h w φ h' w' ∧ relV P φ v z := by
  unfold cpy at hap
  split at hap
  · rename_i ys n hy hn
    obtain ⟨by_, cy', cy, rfl, rcy, fy, gy⟩ := elems_rel R hy ry
    have hcy := relA_length rcy
    dsimp only at hap
    split at hap
    · cases hap
    · rename_i hok
      have hm : (ys.take n).length = min ys.length n := by simp [Nat.min_comm]
      have rz : relA P φ (P.cellsOf e) (ys.take n) (cy.take (min ys.length n * P.cellsOf e)) := by
        by_cases hln : n ≤ ys.length
        · rw [show min ys.length n = n from by omega]; exact (relA_take n rcy).1
        · have h1 : ys.take n = ys := List.take_of_length_le (by omega)
          have h2 : cy.take (min ys.length n * P.cellsOf e) = cy := List.take_of_length_le (by rw [show min ys.length n = ys.length from by omega, hcy]; omega)
          rw [h1, h2]; exact rcy
      have hfirst : (Builtin.firstCells (P.cellsOf e) (min ys.length n) (.slice by_ ys.length cy')).run P w = .ok (cy.take (min ys.length n * P.cellsOf e)).toArray w := by
        cases by_ with
        | none =>
          simp only [Builtin.firstCells] at fy ⊢
          have : cy = [] := by simp at fy; first | exact fy | exact fy.symm
          subst this; simp
        | some a =>
          simp only [Builtin.firstCells]
          have hl : (cy.take (min ys.length n * P.cellsOf e)).length = min ys.length n * P.cellsOf e := by
            rw [relA_length rz, hm]
          have := run_loadCells_list (P := P) w a (cy.take (min ys.length n * P.cellsOf e)) (fun j x hj => by
            have hjl := (List.getElem?_eq_some_iff.1 hj).1
            rw [List.getElem?_take, if_pos (by omega)] at hj
            exact gy a rfl j x hj)
          rw [hl] at this; exact this
      cases x <;> first | (simp at hap; done) | skip
      · rename_i b p t' s n' c op
        simp [lenS] at hn; subst hn
        simp only at hap
        split at hap
        · rename_i hn0
          subst hn0
          simp only [Option.some.injEq, Prod.mk.injEq] at hap
          obtain ⟨rfl, rfl⟩ := hap
          obtain ⟨a0, c0, rfl⟩ := relV_Lany rx
          refine ⟨.int .i64 0, w, ?_, R, Keep.refl _ _ _, relV_I.2 rfl⟩
          have hmin : Nat.min ys.length 0 = min ys.length 0 := rfl
          simp only [Builtin.copy_, List.getElem?_toArray, List.getElem?_cons_zero, List.getElem?_cons_succ, Sem.run_bind, run_underlying ht, Result.andThen_ok, Builtin.lenOf, Sem.run_pure, run_sizeOf' (kind_info hk), hmin, hfirst, goInt]
          simp [storeCells]
        rename_i hn0
        split at hap
        · rename_i bk vb hb
          split at hap
          · cases hap
          · rename_i hro
            split at hap
            · rename_i t2 vs hv
              split at hap
              · rename_i hcond
                obtain ⟨rfl, rfl, hle⟩ := hcond
                split at hap
                · rename_i v' hp
                  cases hap
                  obtain ⟨L, off, c', hL, rfl, hnc, hoff, hcap⟩ | ⟨h0, _⟩ := relV_L.1 rx
                  case inr => exact absurd h0 hn0
                  obtain ⟨w', hst, R', K'⟩ := run_lay R hb hro hL hv rz hle hp
                  refine ⟨.int .i64 (ys.take n').length, w', ?_, R', K', relV_I.2 rfl⟩
                  have hst' : (storeCells ⟨L.cb, off, none⟩ (cy.take (min ys.length n' * P.cellsOf t2))).run P w = .ok () w' := by
                    rcases hoff with h1 | ⟨h1, h2⟩
                    · rw [h1]; exact hst
                    · have hnil : cy.take (min ys.length n' * P.cellsOf t2) = [] := by rw [h1]; simp
                      rw [hnil] at hst ⊢
                      exact hst
                  have hmin : Nat.min ys.length n' = min ys.length n' := rfl
                  simp only [Builtin.copy_, List.getElem?_toArray, List.getElem?_cons_zero, List.getElem?_cons_succ, Sem.run_bind, run_underlying ht, Result.andThen_ok, Builtin.lenOf, Sem.run_pure, run_sizeOf' (kind_info hk), hmin, hfirst, hst', goInt, hm]
                · cases hap
              · cases hap
            · cases hap
        · cases hap
      · simp [lenS] at hn; subst hn
        simp only [Option.some.injEq, Prod.mk.injEq] at hap
        obtain ⟨rfl, rfl⟩ := hap
        obtain rfl := relV_L0.1 rx
        refine ⟨.int .i64 0, w, ?_, R, Keep.refl _ _ _, relV_I.2 rfl⟩
        have hmin : Nat.min ys.length 0 = min ys.length 0 := rfl
        simp only [Builtin.copy_, List.getElem?_toArray, List.getElem?_cons_zero, List.getElem?_cons_succ, Sem.run_bind, run_underlying ht, Result.andThen_ok, Builtin.lenOf, Sem.run_pure, run_sizeOf' (kind_info hk), hmin, hfirst, goInt]
        simp
  · cases hap

/-! The small ones. -/
theorem run_minGo {f : Int → Int → Bool} {g : Value → Value → Sem Value} (hg : ∀ k n m, g (.int k n) (.int k m) = pure (.int k (if f m n then m else n))) {k : IntKind} : ∀ {vs : List V} {n : Int} {v : V} {xs : List Value}, minGo f k n vs = some v → relVs P φ vs xs →
    ∃ z, (xs.foldlM g (.int k n)).run P w = .ok z w ∧ relV P φ v z
  | [], n, v, xs, h, r => by
    rw [relVs_nil.1 r]
    simp only [minGo, Option.some.injEq] at h; subst h
    exact ⟨.int k n, rfl, relV_I.2 rfl⟩
  | u :: vs, n, v, xs, h, r => by
    obtain ⟨x, ys, rfl, r1, r2⟩ := relVs_cons.1 r
    cases u <;> first | (simp [minGo] at h; done) | skip
    rename_i k' m
    simp only [minGo] at h
    split at h
    · rename_i hk; subst hk
      obtain rfl := relV_I.1 r1
      obtain ⟨z, hz, rz⟩ := run_minGo hg h r2
      refine ⟨z, ?_, rz⟩
      simp only [List.foldlM_cons, hg, pure_bind]
      exact hz
    · cases h

theorem run_nilc {x v : V} {a : Value} {o : Oper} {A : Act} {xo : Operand} (ho : o.op = .nilCheck xo) (ha : A.eval xo = a) (h : nilc x = some v) (ra : relV P φ x a) : (execOp A.eval o).run P w = .ok (.value a) w ∧ relV P φ v a := by
  have hv : v = x := by
    unfold nilc at h
    split at h <;> first | (cases h; done) | (cases h; rfl)
  subst hv
  refine ⟨?_, ra⟩
  simp only [execOp, ho, ha]
  cases v <;> first | (simp [nilc] at h; done) | skip
  case B => obtain rfl := relV_B.1 ra; rfl
  case I => obtain rfl := relV_I.1 ra; rfl
  case F => obtain rfl := relV_F.1 ra; rfl
  case X => obtain rfl := relV_X.1 ra; rfl
  case S => obtain rfl := relV_S.1 ra; rfl
  case P => obtain ⟨l, _, rfl⟩ := relV_P.1 ra; rfl
  case L => obtain ⟨_, _, rfl⟩ := relV_Lany ra; rfl
  case L0 => obtain rfl := relV_L0.1 ra; rfl
  case M => obtain ⟨l, _, rfl⟩ := relV_M.1 ra; rfl
  case M0 => obtain rfl := relV_M0.1 ra; rfl
  case Fn f a c =>
    obtain ⟨xs, ys, rfl, _⟩ := relV_Fn.1 ra
    cases f <;> first | rfl | (simp [nilc] at h)
  case If => obtain ⟨y, ds, rfl, _⟩ := relV_If.1 ra; rfl
  case St => obtain ⟨cs, _, rfl⟩ := relV_St.1 ra; rfl
  case Ar => obtain ⟨cs, _, rfl⟩ := relV_Ar.1 ra; rfl
  case T => obtain ⟨xs, rfl, _⟩ := relV_T.1 ra; rfl

theorem relV_of_pack {v : V} {ds : List Value} (r : relC P φ v ds) {y : Value} (e : y = pack v ds) : relV P φ v y := e ▸ relV_of r

theorem run_tasOf {t xt : TypeId} {ok : Bool} {x v : V} {a : Value} (h : tasOf P t ok x = some v) (ra : relV P φ x a) : ∃ z, (Instr.typeAssert a xt t ok).run P w = .ok z w ∧ relV P φ v z := by
  unfold tasOf at h
  split at h
  · cases h
  · rename_i d z hni hu hz
    obtain ⟨zv, hzr, _, rz, _⟩ := zeroOf_val (φ := φ) (w := w) hz
    have key : ∀ y, (∃ t' q, y = Value.iface t' q) ∨ y = .nilIface → (Instr.typeAssert y xt t ok).run P w =
        (match y with
        | .iface t' q => if t' = t then .ok (if ok then .tuple #[q, .bool true] else q) w else (if ok then .ok (.tuple #[zv, .bool false]) w else (runtimePanic (.typeAssertion (some xt) (some t') t "")).run P w)
        | _ => if ok then .ok (.tuple #[zv, .bool false]) w else (runtimePanic (.typeAssertion (some xt) none t "")).run P w) := by
      intro y hy
      rcases hy with ⟨t', q, rfl⟩ | rfl
      · cases d <;> first | (exact absurd rfl (hni _)) | skip
        all_goals
          simp only [Instr.typeAssert, Sem.run_bind, run_underlying hu, Result.andThen_ok]
          by_cases e : t' = t
          · simp only [e, if_true]; cases ok <;> rfl
          · simp only [if_neg e]
            cases ok <;> simp [hzr]
      · cases d <;> first | (exact absurd rfl (hni _)) | skip
        all_goals
          simp only [Instr.typeAssert, Sem.run_bind, run_underlying hu, Result.andThen_ok]
          cases ok <;> simp [hzr]
    cases x <;> first | (simp [tas] at h; done) | skip
    · rename_i t' q
      obtain ⟨y, ds, rfl, rd, hy⟩ := relV_If.1 ra
      rw [key _ (.inl ⟨_, _, rfl⟩)]
      simp only [tas] at h
      by_cases e : t' = t
      · simp only [e, if_true] at h ⊢
        cases ok
        · simp at h; subst h; exact ⟨_, rfl, relV_of_pack rd hy⟩
        · simp at h; subst h; exact ⟨_, rfl, relV_pair (relV_of_pack rd hy)⟩
      · simp only [if_neg e] at h ⊢
        cases ok
        · simp at h
        · simp at h; subst h; exact ⟨_, rfl, relV_pair rz⟩
    · obtain rfl := relV_If0.1 ra
      rw [key _ (.inr rfl)]
      simp only [tas] at h
      cases ok
      · simp at h
      · simp at h; subst h; exact ⟨_, rfl, relV_pair rz⟩
  · cases h

end
end Go.Proofs.YtnnebakkcdclmaaGreat.AM
