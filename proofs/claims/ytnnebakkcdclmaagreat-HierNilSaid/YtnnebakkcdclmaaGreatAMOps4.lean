/-
  Proved here, for every program: a part of the soundness of an abstract machine against the model: lemmas. Conditions: none.
-/
import Derived.Test.YtnnebakkcdclmaaGreatAMOps3
namespace Go.Proofs.YtnnebakkcdclmaaGreat.AM
section
variable {P : Program} {φ : Phi} {w : World}

theorem kind_info {t : TypeId} {k : LK} (h : kind P t = some k) : (P.info? t).isSome = true := by
  cases hi : P.info? t with
  | none => simp [kind, Program.underlying, hi] at h
  | some i => rfl

/-- What a kind says of the type beneath. -/
theorem kind_desc {t : TypeId} {k : LK} (h : kind P t = some k) :
    (∃ u fs, k = .s u ∧ u = P.underlyingId t ∧ P.underlying t = some (.struct fs) ∧ fieldsOf P u = some fs.toList ∧ fieldsFit P fs.toList 0 (P.cellsOf t) = true ∧ P.cellsOf u = P.cellsOf t) ∨
    (∃ n e, k = .a e n ∧ P.underlying t = some (.array n e) ∧ P.cellsOf t = n * P.cellsOf e) ∨
    (k = .l ∧ P.cellsOf t = 1 ∧ ∃ d, P.underlying t = some d ∧ (match d with | .struct _ | .array _ _ => true | _ => false) = false) := by
  unfold kind at h
  split at h
  · rename_i fs hu
    dsimp only at h
    split at h
    · rename_i fs' hf
      split at h
      · rename_i hc
        simp only [Bool.and_eq_true, decide_eq_true_eq] at hc
        cases h
        refine .inl ⟨_, fs, rfl, rfl, hu, ?_, ?_, hc.1.2⟩
        · obtain ⟨gs, hg, he⟩ := underlying_struct hf
          rw [hu] at hg; cases hg
          rw [hf, he]
        · obtain ⟨gs, hg, he⟩ := underlying_struct hf
          rw [hu] at hg; cases hg
          rw [he]; exact hc.1.1
      · cases h
    · cases h
  · rename_i n e hu
    split at h
    · rename_i hc
      cases h
      simp only [Bool.and_eq_true, decide_eq_true_eq] at hc
      exact .inr (.inl ⟨n, e, rfl, hu, hc.1⟩)
    · cases h
  · cases h
  · cases h
  · rename_i d hu h1 h2 h3 h4
    split at h
    · rename_i hc
      simp only [decide_eq_true_eq] at hc
      cases h
      refine .inr (.inr ⟨rfl, hc, _, h4, ?_⟩)
      split
      · exact absurd rfl (hu _)
      · exact absurd rfl (h1 _ _)
      · rfl
    · cases h
  · cases h

theorem kind_pos {t : TypeId} {k : LK} (h : kind P t = some k) : 0 < P.cellsOf t := by
  unfold kind at h
  split at h
  · dsimp only at h
    split at h
    · split at h
      · rename_i hc; simp only [Bool.and_eq_true, decide_eq_true_eq] at hc; exact hc.2
      · cases h
    · cases h
  · split at h
    · rename_i hc; simp only [Bool.and_eq_true, decide_eq_true_eq] at hc; exact hc.2
    · cases h
  · cases h
  · cases h
  · split at h
    · rename_i hc; simp only [decide_eq_true_eq] at hc; omega
    · cases h
  · cases h

def LK.agg : LK → Bool
  | .l => false
  | _ => true

theorem run_isAgg {t : TypeId} {k : LK} (h : kind P t = some k) : (isAgg t).run P w = .ok k.agg w := by
  rcases kind_desc h with ⟨u, fs, rfl, _, hu, _⟩ | ⟨n, e, rfl, hu, _⟩ | ⟨rfl, _, d, hu, hd⟩
  · simp [isAgg, run_underlying hu, LK.agg]
  · simp [isAgg, run_underlying hu, LK.agg]
  · simp only [isAgg, Sem.run_bind, run_underlying hu, Result.andThen_ok, LK.agg]
    cases d <;> simp_all

theorem kind_leaf {k : LK} {v : V} (hk : LK.ok k v = true) : k.agg = !v.leaf := by
  cases k <;> cases v <;> first | rfl | (exact absurd (show false = true from hk) (by simp)) | (simp [LK.ok, V.leaf] at hk)

/-- A part of an aggregate, as the model takes it out. -/
theorem run_part {t : TypeId} {k : LK} {v : V} {cs pre mid post : List Value} {off : Nat} (hk : kind P t = some k) (ho : LK.ok k v = true) (r : relC P φ v mid)
    (hc : cs = pre ++ mid ++ post) (hp : pre.length = off) : ∃ z, (part t cs.toArray off).run P w = .ok z w ∧ relV P φ v z := by
  have hl := kind_size hk ho r
  have hleaf := kind_leaf ho
  simp only [part, Sem.run_bind, run_isAgg hk, Result.andThen_ok]
  by_cases hv : v.leaf = true
  · rw [hleaf, hv]
    obtain ⟨x, rfl, _⟩ := relC_leaf hv r
    refine ⟨x, ?_, (relV_leaf hv).2 r⟩
    have : cs.toArray[off]? = some x := by subst hc; subst hp; simp
    simp [this]
  · rw [hleaf]
    have hv' : v.leaf = false := by simpa using hv
    rw [hv']
    refine ⟨.agg mid.toArray, ?_, .inl ⟨mid, r, ?_⟩⟩
    · have hx : (cs.toArray.extract off (off + P.cellsOf t)) = mid.toArray := by
        subst hc; subst hp
        rw [← hl]
        apply Array.ext'
        simp
      simp only [Bool.not_false, if_true, Sem.run_bind, run_sizeOf' (kind_info hk), Result.andThen_ok, Sem.run_pure, hx]
    · cases k <;> cases v <;> simp_all [LK.ok, V.leaf, pack]

theorem run_fldOf {s : TypeId} {x v : V} {i : Nat} {a : Value} (h : fldOf P s x i = some v) (ra : relV P φ x a) : ∃ z, (Instr.field s a i).run P w = .ok z w ∧ relV P φ v z := by
  unfold fldOf at h
  split at h
  · rename_i u hk
    split at h
    · rename_i fs hf
      split at h
      · rename_i f hi
        split at h
        · rename_i k hkf
          simp only [Option.bind_eq_some_iff] at h
          obtain ⟨v', hv, h⟩ := h
          split at h
          · rename_i hok
            cases h
            cases x <;> first | (simp [fld] at hv; done) | skip
            rename_i u' vs
            simp only [fld] at hv
            split at hv
            · rename_i e
              subst e
              obtain ⟨cs, r, rfl⟩ := relV_St.1 ra
              simp only [relC] at r
              obtain ⟨fs', e1, e2, e3, r1⟩ := r
              rw [hf] at e1; cases e1
              obtain ⟨f', pre, mid, post, g1, g2, g3, g4, g5, _⟩ := relF_get r1 hv
              rw [hi] at g1; cases g1
              rcases kind_desc hk with ⟨_, gs, hku, e, hu, hf', _⟩ | ⟨_, _, e, _⟩ | ⟨e, _⟩
              · cases hku
                rw [hf] at hf'; cases hf'
                obtain ⟨z, hz, rz⟩ := run_part (w := w) hkf hok g5 g2 (by omega : pre.length = f.offset)
                refine ⟨z, ?_, rz⟩
                have hgi : gs[i]? = some f := by simpa using hi
                simp only [Instr.field, Sem.run_bind, run_underlying hu, Result.andThen_ok, hgi, asAgg, Sem.run_pure, hz]
              · cases e
              · cases e
            · cases hv
          · cases h
        · cases h
      · cases h
    · cases h
  · cases h

theorem run_idxAOf {t : TypeId} {x ix v : V} {a b : Value} (h : idxAOf P t x ix = some v) (ra : relV P φ x a) (rb : relV P φ ix b) : ∃ z, (Instr.indexAt t a b).run P w = .ok z w ∧ relV P φ v z := by
  unfold idxAOf at h
  split at h
  · rename_i n e hu
    split at h
    · rename_i he
      cases x <;> cases ix <;> first | (simp [idxA] at h; done) | skip
      rename_i b p k j
      simp only [idxA] at h
      split at h
      · rename_i hj
        cases h
        obtain ⟨L, hL, rfl⟩ := relV_P.1 ra
        obtain rfl := relV_I.1 rb
        refine ⟨_, by simp only [Instr.indexAt, Sem.run_bind, run_underlying hu, Result.andThen_ok, Instr.sureAddr, asIntOf, Sem.run_pure, if_pos hj, run_sizeOf' he]; rfl, ?_⟩
        rw [add_eq]
        refine relV_P.2 ⟨L, hL, ?_⟩
        rw [offs_append]; simp [offs, offOf, Nat.add_assoc]
      · cases h
    · cases h
  · rename_i e hu
    split at h
    · rename_i he
      cases x <;> cases ix <;> first | (simp [idxS] at h; done) | skip
      rename_i b p t' s n c op k j
      simp only [idxS] at h
      split at h
      · rename_i hj
        obtain ⟨rfl, hj⟩ := hj
        cases h
        obtain ⟨L, off, c', hL, rfl, hnc, hoff, hcap⟩ | ⟨h0, _⟩ := relV_L.1 ra
        case inr => omega
        obtain rfl := relV_I.1 rb
        refine ⟨_, by simp only [Instr.indexAt, Sem.run_bind, run_underlying hu, Result.andThen_ok, asIntOf, Sem.run_pure, if_pos hj, run_sizeOf' he]; rfl, ?_⟩
        rw [add_eq]
        refine relV_P.2 ⟨L, hL, ?_⟩
        have hoff' : off = L.base + offs P p + s * P.cellsOf t' := by
          rcases hoff with h1 | ⟨h1, h2⟩
          · exact h1
          · omega
        rw [offs_append]; simp [offs, offOf, hoff', Nat.add_mul, Nat.add_assoc]
      · cases h
    · cases h
  · cases h

theorem run_idxOf {t : TypeId} {x ix v : V} {a b : Value} (h : idxOf P t x ix = some v) (ra : relV P φ x a) (rb : relV P φ ix b) : ∃ z, (Instr.index t a b).run P w = .ok z w ∧ relV P φ v z := by
  unfold idxOf at h
  split at h
  · rename_i n e hu
    split at h
    · rename_i k hk
      cases x <;> cases ix <;> first | (simp [idxV] at h; done) | skip
      rename_i e' vs kk j
      simp only [idxV] at h
      split at h
      · rename_i hj
        obtain ⟨rfl, h0, h1, h2⟩ := hj
        simp only [Option.bind_eq_some_iff] at h
        obtain ⟨v', hv, h⟩ := h
        split at h
        · rename_i hok
          cases h
          obtain ⟨cs, r, rfl⟩ := relV_Ar.1 ra
          obtain rfl := relV_I.1 rb
          simp only [relC] at r
          obtain ⟨pre, mid, post, g2, g3, g4, g5, _⟩ := relA_get r hv
          obtain ⟨z, hz, rz⟩ := run_part (w := w) hk hok g5 g2 g3
          refine ⟨z, ?_, rz⟩
          have hjj : 0 ≤ j ∧ j < n := ⟨h0, h1⟩
          simp only [Instr.index, Sem.run_bind, run_underlying hu, Result.andThen_ok, asIntOf, Sem.run_pure, if_pos hjj, run_sizeOf' (kind_info hk), hz]
        · cases h
      · cases h
    · cases h
  · rename_i hu
    cases x <;> cases ix <;> first | (simp [idxStr] at h; done) | skip
    rename_i s k j
    simp only [idxStr] at h
    split at h
    · rename_i h0
      simp only [Option.map_eq_some_iff] at h
      obtain ⟨c, hc, rfl⟩ := h
      obtain rfl := relV_S.1 ra
      obtain rfl := relV_I.1 rb
      exact ⟨_, by simp only [Instr.index, Sem.run_bind, run_underlying hu, Result.andThen_ok, asIntOf, Sem.run_pure, if_pos h0, hc, Sem.run_pure], relV_I.2 rfl⟩
    · cases h
  · cases h

theorem relVs_get : ∀ {vs : List V} {xs : List Value} {i : Nat} {v : V}, relVs P φ vs xs → vs[i]? = some v → ∃ x, xs[i]? = some x ∧ relV P φ v x
  | [], _, _, _, _, h => by simp at h
  | u :: vs, xs, i, v, r, h => by
    obtain ⟨x, ys, rfl, r1, r2⟩ := relVs_cons.1 r
    cases i with
    | zero => simp at h; subst h; exact ⟨x, by simp, r1⟩
    | succ i => simp at h; obtain ⟨z, hz, rz⟩ := relVs_get r2 h; exact ⟨z, by simpa using hz, rz⟩

theorem run_ext {x v : V} {i : Nat} {a : Value} (h : ext i x = some v) (ra : relV P φ x a) : ∃ z, (Instr.extract a i).run P w = .ok z w ∧ relV P φ v z := by
  cases x <;> first | (simp [ext] at h; done) | skip
  simp only [ext] at h
  obtain ⟨xs, rfl, r⟩ := relV_T.1 ra
  obtain ⟨z, hz, rz⟩ := relVs_get r h
  refine ⟨z, ?_, rz⟩
  have : xs.toArray[i]? = some z := by simpa using hz
  simp [Instr.extract, this]

theorem relVs_append : ∀ {vs us : List V} {xs ys : List Value}, relVs P φ vs xs → relVs P φ us ys → relVs P φ (vs ++ us) (xs ++ ys)
  | [], _, _, _, r, r' => by rw [relVs_nil.1 r]; exact r'
  | v :: vs, us, xs, ys, r, r' => by
    obtain ⟨x, zs, rfl, r1, r2⟩ := relVs_cons.1 r
    exact relVs_cons.2 ⟨x, zs ++ ys, rfl, r1, relVs_append r2 r'⟩

/-! Zeros. -/
theorem eqLeaf_rel {v : V} {x : Value} (h : eqLeaf v x = true) : relV P φ v x := by
  cases v <;> cases x <;> first | (simp [eqLeaf] at h; done) | skip
  case B.bool => simp [eqLeaf] at h; exact relV_B.2 (by rw [h])
  case I.int => simp [eqLeaf] at h; exact relV_I.2 (by rw [h.1, h.2])
  case F.float => simp [eqLeaf] at h; exact relV_F.2 (by rw [h.1, h.2])
  case X.complex => simp [eqLeaf] at h; exact relV_X.2 (by rw [h.1.1, h.1.2, h.2])
  case S.string => simp [eqLeaf] at h; exact relV_S.2 (by rw [h])
  case P0.pointer a => cases a <;> simp [eqLeaf] at h; exact relV_P0.2 rfl
  case L0.slice a n c =>
    cases a with
    | some _ => simp [eqLeaf] at h
    | none => cases n with
      | succ _ => simp [eqLeaf] at h
      | zero => cases c with
        | succ _ => simp [eqLeaf] at h
        | zero => exact relV_L0.2 rfl
  case M0.map a => cases a <;> simp [eqLeaf] at h; exact relV_M0.2 rfl
  case Fn0.nilFunc => exact relV_Fn0.2 rfl
  case If0.nilIface => exact relV_If0.2 rfl

theorem leafCells {v : V} {cs r : List Value} (hv : v.leaf = true) (h : (match cs with | c :: cs => if eqLeaf v c then some cs else none | [] => none) = some r) : ∃ c1, cs = c1 ++ r ∧ relC P φ v c1 := by
  cases cs with
  | nil => cases h
  | cons c cs =>
    simp only at h
    split at h
    · rename_i he
      cases h
      exact ⟨[c], rfl, (relV_leaf hv).1 (eqLeaf_rel he)⟩
    · cases h

mutual
theorem eqCells_rel : ∀ {v : V} {cs r : List Value}, eqCells P v cs = some r → ∃ c1, cs = c1 ++ r ∧ relC P φ v c1
  | .St t vs, cs, r, h => by
    simp only [eqCells] at h
    split at h
    · rename_i fs hf
      split at h
      · rename_i hl
        split at h
        · rename_i r' hr
          split at h
          · rename_i hs
            cases h
            obtain ⟨c1, e, rf⟩ := eqFields_rel hr
            refine ⟨c1, e, ?_⟩
            simp only [relC]
            refine ⟨fs, hf, by simpa using hl, ?_, rf⟩
            have := congrArg List.length e
            simp only [decide_eq_true_eq] at hs
            simp at this; omega
          · cases h
        · cases h
      · cases h
    · cases h
  | .Ar t vs, cs, r, h => by
    simp only [eqCells] at h
    obtain ⟨c1, e, ra⟩ := eqElems_rel h
    exact ⟨c1, e, by simpa only [relC] using ra⟩
  | .T _, _, _, h => by simp [eqCells] at h
  | .P _ _, _, _, h => by simp [eqCells] at h
  | .L .., _, _, h => by simp [eqCells] at h
  | .M _, _, _, h => by simp [eqCells] at h
  | .Fn .., _, _, h => by simp [eqCells] at h
  | .If .., _, _, h => by simp [eqCells] at h
  | .B _, cs, r, h => leafCells rfl (by cases cs <;> simpa only [eqCells] using h)
  | .I _ _, cs, r, h => leafCells rfl (by cases cs <;> simpa only [eqCells] using h)
  | .F _ _, cs, r, h => leafCells rfl (by cases cs <;> simpa only [eqCells] using h)
  | .X _ _ _, cs, r, h => leafCells rfl (by cases cs <;> simpa only [eqCells] using h)
  | .S _, cs, r, h => leafCells rfl (by cases cs <;> simpa only [eqCells] using h)
  | .P0, cs, r, h => leafCells rfl (by cases cs <;> simpa only [eqCells] using h)
  | .L0, cs, r, h => leafCells rfl (by cases cs <;> simpa only [eqCells] using h)
  | .M0, cs, r, h => leafCells rfl (by cases cs <;> simpa only [eqCells] using h)
  | .Fn0, cs, r, h => leafCells rfl (by cases cs <;> simpa only [eqCells] using h)
  | .If0, cs, r, h => leafCells rfl (by cases cs <;> simpa only [eqCells] using h)
theorem eqFields_rel : ∀ {vs : List V} {fs : List Field} {off : Nat} {cs r : List Value}, eqFields P fs off vs cs = some r → ∃ c1, cs = c1 ++ r ∧ relF P φ vs fs off c1
  | [], fs, off, cs, r, h => by
    cases fs <;> simp only [eqFields, Option.some.injEq] at h <;> subst h <;> exact ⟨[], rfl, by simp [relF]⟩
  | v :: vs, fs, off, cs, r, h => by
    cases fs with
    | nil => simp [eqFields] at h
    | cons f fs =>
      simp only [eqFields] at h
      split at h
      · rename_i r' hr
        split at h
        · rename_i hc
          simp only [Bool.and_eq_true, decide_eq_true_eq] at hc
          obtain ⟨c1, e1, r1⟩ := eqCells_rel hr
          obtain ⟨c2, e2, r2⟩ := eqFields_rel h
          refine ⟨c1 ++ c2, by rw [e1, e2, List.append_assoc], ?_⟩
          simp only [relF]
          refine ⟨f, fs, c1, c2, rfl, hc.1, rfl, ?_, r1, r2⟩
          have := congrArg List.length e1
          simp at this; omega
        · cases h
      · cases h
theorem eqElems_rel : ∀ {vs : List V} {n : Nat} {cs r : List Value}, eqElems P n vs cs = some r → ∃ c1, cs = c1 ++ r ∧ relA P φ n vs c1
  | [], n, cs, r, h => by
    simp only [eqElems, Option.some.injEq] at h; subst h; exact ⟨[], rfl, by simp [relA]⟩
  | v :: vs, n, cs, r, h => by
    simp only [eqElems] at h
    split at h
    · rename_i r' hr
      split at h
      · rename_i hc
        simp only [decide_eq_true_eq] at hc
        obtain ⟨c1, e1, r1⟩ := eqCells_rel hr
        obtain ⟨c2, e2, r2⟩ := eqElems_rel h
        refine ⟨c1 ++ c2, by rw [e1, e2, List.append_assoc], ?_⟩
        simp only [relA]
        refine ⟨c1, c2, rfl, ?_, r1, r2⟩
        have := congrArg List.length e1
        simp at this; omega
      · cases h
    · cases h
end

/-- A type's zero is the model's. -/
theorem zeroOf_rel {t : TypeId} {v : V} (h : zeroOf P t = some v) : ∃ k i z, kind P t = some k ∧ P.info? t = some i ∧ i.zero = some z ∧ LK.ok k v = true ∧ relC P φ v z.cells.toList ∧ relV P φ v z := by
  unfold zeroOf at h
  cases hk : kind P t with
  | none => simp [hk] at h
  | some k =>
    cases hz : (P.info? t).bind (·.zero) with
    | none => simp [hk, hz] at h
    | some z =>
      simp only [hk, hz, Option.ite_none_right_eq_some, Option.some.injEq, Bool.and_eq_true] at h
      obtain ⟨⟨⟨h1, h2⟩, h3⟩, rfl⟩ := h
      simp only [Option.bind_eq_some_iff] at hz
      obtain ⟨i, hi, hz⟩ := hz
      refine ⟨k, i, z, rfl, hi, hz, h1, ?_⟩
      cases he : eqCells P (zeroV P 12 t) z.cells.toList with
      | none => simp [he] at h2
      | some r =>
        cases r with
        | cons _ _ => simp [he] at h2
        | nil =>
          obtain ⟨c1, e, r⟩ := eqCells_rel (φ := φ) he
          rw [List.append_nil] at e
          have r' : relC P φ (zeroV P 12 t) z.cells.toList := by rw [e]; exact r
          refine ⟨r', .inl ⟨_, r', ?_⟩⟩
          generalize zeroV P 12 t = v at *
          by_cases hv : v.leaf = true
          · obtain ⟨x, hx, _⟩ := relC_leaf hv r'
            rw [hx, pack_leaf hv]
            cases z <;> simp [hv] at h3 <;> simpa [Value.cells] using hx
          · have hv' : v.leaf = false := by simpa using hv
            cases z <;> simp [hv'] at h3
            cases v <;> simp [V.leaf] at hv' <;> first | rfl | (simp only [relC] at r')

theorem run_zeroValue {t : TypeId} {i : TypeInfo} {z : Value} (hi : P.info? t = some i) (hz : i.zero = some z) : (zeroValue t).run P w = .ok z w := by
  simp [zeroValue, run_typeInfo w hi, hz]

/-- The zero as a value. -/
theorem zeroOf_val {t : TypeId} {v : V} (h : zeroOf P t = some v) : ∃ z : Value, (zeroValue t).run P w = .ok z w ∧ relC P φ v z.cells.toList ∧ relV P φ v z ∧ ∃ k, kind P t = some k ∧ LK.ok k v = true := by
  obtain ⟨k, i, z, hk, hi, hz, ho, r, rv⟩ := zeroOf_rel (φ := φ) h
  exact ⟨z, run_zeroValue hi hz, r, rv, k, hk, ho⟩

end
end Go.Proofs.YtnnebakkcdclmaaGreat.AM
