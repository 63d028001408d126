/-
  Proved here, for every program: a part of the soundness of an abstract machine against the model: lemmas. Conditions: none.
-/
import Derived.Test.YtnnebakkcdclmaaGreatAMDef
namespace Go.Proofs.YtnnebakkcdclmaaGreat.AM
section
variable {P : Program} {E E' : Env} {h : H} {o : Oper}

theorem map_opv {xs : List Operand} (hx : ∀ x ∈ xs, opv E x = opv E' x) : xs.map (opv E) = xs.map (opv E') := List.map_congr_left hx

theorem opt_opv {x : Option Operand} (hx : ∀ y ∈ x.toList, opv E y = opv E' y) : x.map (opv E) = x.map (opv E') := by
  cases x with
  | none => rfl
  | some x => simp only [Option.map_some]; rw [hx x (by simp)]

theorem parts_congr {ps : List (Nat × LK × Operand)} (hx : ∀ p ∈ ps, opv E p.2.2 = opv E' p.2.2) : parts E ps = parts E' ps := by
  unfold parts
  refine List.map_congr_left fun p hp => ?_
  obtain ⟨i, k, x⟩ := p
  simp only
  rw [hx _ hp]

theorem partKinds_mem {fs : List Field} : ∀ {ps : List (Nat × Operand)} {ks : List (Nat × LK × Operand)}, partKinds P fs ps = some ks → ∀ p ∈ ks, ∃ q ∈ ps, p.2.2 = q.2
  | [], ks, h, p, hp => by simp only [partKinds, Option.some.injEq] at h; subst h; cases hp
  | (i, x) :: ps, ks, h, p, hp => by
    simp only [partKinds] at h
    split at h
    · split at h
      · rename_i k r hk hr
        cases h
        rcases List.mem_cons.1 hp with rfl | hp
        · exact ⟨(i, x), by simp, rfl⟩
        · obtain ⟨q, hq, e⟩ := partKinds_mem hr p hp
          exact ⟨q, List.mem_cons_of_mem _ hq, e⟩
      · cases h
    · cases h

theorem buildOf_congr {t : TypeId} {ps : List (Nat × Operand)} (hx : ∀ p ∈ ps, opv E p.2 = opv E' p.2) : buildOf P E t ps = buildOf P E' t ps := by
  unfold buildOf
  split
  · split
    · split
      · rename_i ks hk
        rw [parts_congr (E := E) (E' := E')]
        intro p hp
        obtain ⟨q, hq, e⟩ := partKinds_mem hk p hp
        rw [e]; exact hx q hq
      · rfl
    · rfl
  · split
    · rw [parts_congr (E := E) (E' := E')]
      intro p hp
      obtain ⟨q, hq, rfl⟩ := List.mem_map.1 hp
      exact hx q hq
    · rfl
  · rfl

theorem evV_congr (hx : ∀ x ∈ o.op.operands.toList, opv E x = opv E' x) : evV P E h o = evV P E' h o := by
  unfold evV
  cases hop : o.op <;> rw [hop] at hx <;> simp only [Op.operands] at hx ⊢
  case move x => rw [hx x (by simp)]
  case assign x => rw [hx x (by simp)]
  case pick c a b => rw [hx c (by simp), hx a (by simp), hx b (by simp)]
  case load t x => rw [hx x (by simp)]
  case nilCheck x => rw [hx x (by simp)]
  case binOp op t x y yt => rw [hx x (by simp), hx y (by simp)]
  case unOp op t x => rw [hx x (by simp)]
  case convert s d x => rw [hx x (by simp)]
  case makeInterface t x => rw [hx x (by simp)]
  case makeFunc fn first cap =>
    rw [map_opv (E := E) (E' := E') (xs := first.toList) fun x hm => hx x (by simp at hm ⊢; exact .inl hm), map_opv (E := E) (E' := E') (xs := cap.toList) fun x hm => hx x (by simp at hm ⊢; exact .inr hm)]
  case slice t x lo hi mx =>
    rw [hx x (by simp), opt_opv (E := E) (E' := E') (x := lo) fun y hy => hx y (by simp at hy ⊢; simp [hy]), opt_opv (E := E) (E' := E') (x := hi) fun y hy => hx y (by simp at hy ⊢; simp [hy]),
      opt_opv (E := E) (E' := E') (x := mx) fun y hy => hx y (by simp at hy ⊢; simp [hy])]
  case fieldAddr s x f => rw [hx x (by simp)]
  case field t x f => rw [hx x (by simp)]
  case indexAddr t x ix => rw [hx x (by simp), hx ix (by simp)]
  case index t x ix => rw [hx x (by simp), hx ix (by simp)]
  case lookup t m k ok => rw [hx m (by simp), hx k (by simp)]
  case typeAssert x xt t ok => rw [hx x (by simp)]
  case extract x i => rw [hx x (by simp)]
  case build t ps =>
    refine buildOf_congr fun p hp => hx p.2 ?_
    simp only [List.mem_map]
    exact ⟨p, hp, rfl⟩
  case call c =>
    have hargs : c.args.toList.map (opv E) = c.args.toList.map (opv E') := map_opv fun x hm => hx x (by simp only [Call.operands, Array.toList_append, List.mem_append]; exact .inr hm)
    cases hcal : c.callee with
    | value f => rfl
    | invoke r n => rfl
    | builtin b =>
      cases b <;> simp only [hargs]
      case len =>
        cases ht : c.argTypes[0]? with
        | none => rfl
        | some t =>
          cases hx0 : c.args[0]? with
          | none => rfl
          | some x =>
            have : opv E x = opv E' x := hx x (by
              simp only [Call.operands, Array.toList_append, List.mem_append]
              exact .inr (Array.mem_toList_iff.2 (Array.mem_of_getElem? hx0)))
            simp only [this]

theorem evA_congr (hx : ∀ x ∈ o.op.operands.toList, opv E x = opv E' x) : evA P E o = evA P E' o := by
  unfold evA
  cases hop : o.op <;> rw [hop] at hx <;> simp only [Op.operands] at hx ⊢
  case box t x => rw [hx x (by simp)]
  case buildSlice t len ps =>
    have : ∀ k : LK, parts E (ps.toList.map fun (i, x) => (i, k, x)) = parts E' (ps.toList.map fun (i, x) => (i, k, x)) := by
      intro k
      refine parts_congr fun p hp => ?_
      obtain ⟨q, hq, rfl⟩ := List.mem_map.1 hp
      exact hx q.2 (by simp only [List.mem_map]; exact ⟨q, hq, rfl⟩)
    simp only [this]
  case makeSlice t l c => rw [hx l (by simp), hx c (by simp)]
  case makeMap t r => cases r <;> rfl

theorem evE_congr {call : CallT} (hx : ∀ x ∈ o.op.operands.toList, opv E x = opv E' x) : evE P call E h o = evE P call E' h o := by
  unfold evE
  cases hop : o.op <;> rw [hop] at hx <;> simp only [Op.operands] at hx ⊢
  case store t a x => rw [hx a (by simp), hx x (by simp)]
  case mapUpdate t m k x => rw [hx m (by simp), hx k (by simp), hx x (by simp)]
  case insert t m k x => rw [hx m (by simp), hx k (by simp), hx x (by simp)]
  case call c =>
    have hmem : ∀ x ∈ c.args.toList, opv E x = opv E' x := fun x hm => hx x (by simp only [Call.operands, Array.toList_append, List.mem_append]; exact .inr hm)
    have hargs : c.args.toList.map (opv E) = c.args.toList.map (opv E') := map_opv hmem
    cases hcal : c.callee with
    | value f =>
      have : opv E f = opv E' f := hx f (by simp [Call.operands, hcal])
      simp only [this, hargs]
    | invoke r n =>
      have : opv E r = opv E' r := hx r (by simp [Call.operands, hcal])
      simp only [this, hargs]
    | builtin b =>
      cases b <;> simp only
      all_goals
        rcases hT : c.argTypes.toList with _ | ⟨t, _ | ⟨u, _ | ⟨_, _⟩⟩⟩ <;> rcases hl : c.args.toList with _ | ⟨x, _ | ⟨y, _ | ⟨_, _⟩⟩⟩ <;> first
          | rfl
          | (have h1 := hmem x (by simp [hl]); have h2 := hmem y (by simp [hl]); simp only [h1, h2]; done)
          | (have h1 := hmem x (by simp [hl]); simp only [h1]; done)

theorem wants_congr {ops : List Oper} (hx : ∀ t ∈ looks ops o, E t = E' t) : wants ops E o = wants ops E' o := by
  unfold wants
  cases hg : o.guard with
  | none => rfl
  | some g =>
    obtain ⟨j, w⟩ := g
    simp only
    cases hd : (ops[j]?).bind (·.dst) with
    | none => rfl
    | some t =>
      simp only
      rw [hx t (by unfold looks; rw [hg]; simp [hd])]

theorem opv_of_looks {ops : List Oper} (hx : ∀ t ∈ looks ops o, E t = E' t) : ∀ x ∈ o.op.operands.toList, opv E x = opv E' x := by
  intro x hm
  cases x with
  | tmp t =>
    refine hx t ?_
    unfold looks
    rw [List.mem_append]
    exact .inl (List.mem_filterMap.2 ⟨.tmp t, hm, rfl⟩)
  | _ => rfl

/-- What only reckons doesn't look at memory. -/
theorem evV_pure {h' : H} (hc : cls o.op = 0) : evV P E h o = evV P E h' o := by
  unfold evV
  cases hop : o.op <;> rw [hop] at hc <;> first | rfl | (simp [cls] at hc)

end
end Go.Proofs.YtnnebakkcdclmaaGreat.AM
