/-
  Proved here, for every program: a part of the soundness of an abstract machine against the model: lemmas. Conditions: none.
-/
import Derived.Test.YtnnebakkcdclmaaGreatAMOps5
namespace Go.Proofs.YtnnebakkcdclmaaGreat.AM
section
variable {P : Program} {φ : Phi} {w : World}

/-! Literals. -/
theorem foldl_set : ∀ (xs : List Value) (k : Nat) (arr : Array Value) (off : Nat), off + k + xs.length ≤ arr.size →
    ((xs.zipIdx k).foldl (fun (cs : Array Value) (p : Value × Nat) => cs.setIfInBounds (off + p.2) p.1) arr).toList = arr.toList.take (off + k) ++ xs ++ arr.toList.drop (off + k + xs.length)
  | [], k, arr, off, _ => by simp
  | x :: xs, k, arr, off, h => by
    simp only [List.zipIdx_cons, List.foldl_cons]
    simp only [List.length_cons] at h
    rw [foldl_set xs (k + 1) (arr.setIfInBounds (off + k) x) off (by simp; omega)]
    simp only [Array.toList_setIfInBounds]
    apply List.ext_getElem?
    intro i
    simp only [List.getElem?_append, List.length_append, List.length_take, List.length_set, List.getElem?_take, List.getElem?_drop, List.getElem?_set, Array.length_toList, List.length_cons]
    have h1 : min (off + (k + 1)) arr.size = off + k + 1 := by omega
    have h2 : min (off + k) arr.size = off + k := by omega
    rw [h1, h2]
    by_cases c1 : i < off + k
    · rw [if_pos (by omega), if_pos (by omega), if_pos (by omega), if_neg (by omega), if_pos (by omega), if_pos (by omega), if_pos (by omega)]
    · by_cases c2 : i = off + k
      · subst c2
        rw [if_pos (by omega), if_pos (by omega), if_pos (by omega), if_pos rfl, if_pos (by omega), if_pos (by omega), if_neg (by omega)]
        simp
      · by_cases c3 : i < off + k + 1 + xs.length
        · rw [if_pos (by omega), if_neg (by omega), if_pos (by omega), if_neg (by omega)]
          obtain ⟨j, rfl⟩ : ∃ j, i = off + k + 1 + j := ⟨i - (off + k + 1), by omega⟩
          rw [show off + k + 1 + j - (off + k + 1) = j from by omega, show off + k + 1 + j - (off + k) = j + 1 from by omega]
          simp
        · rw [if_neg (by omega), if_neg (by omega), if_neg (by omega)]
          congr 1; omega

theorem fill_step {cells vc : Array Value} {off : Nat} (h : off + vc.size ≤ cells.size) :
    (vc.zipIdx.foldl (fun cs (c, j) => cs.setIfInBounds (off + j) c) cells).toList = cells.toList.take off ++ vc.toList ++ cells.toList.drop (off + vc.size) := by
  have h0 := foldl_set vc.toList 0 cells off (by simpa using h)
  rw [← Array.foldl_toList, Array.toList_zipIdx]
  simpa using h0

/-- Parts, and their values. -/
inductive relPs (P : Program) (φ : Phi) : List (Nat × LK × V) → List (Nat × Value) → Prop
  | nil : relPs P φ [] []
  | cons {i : Nat} {k : LK} {v : V} {x : Value} {ps : List (Nat × LK × V)} {qs : List (Nat × Value)} : relV P φ v x → relPs P φ ps qs → relPs P φ ((i, k, v) :: ps) ((i, x) :: qs)

/-- What a place's part is: of what a list of trees, and a row of cells, are. -/
structure Slots (P : Program) (φ : Phi) (G : List V → List Value → Prop) (place : Nat → Option (Nat × Nat)) (n : Nat) : Prop where
  get : ∀ vs cs i, vs.length = n → G vs cs → i < n → ∃ pre mid post, cs = pre ++ mid ++ post ∧ place i = some (pre.length, mid.length) ∧
    ∀ x mid', relC P φ x mid' → mid'.length = mid.length → G (vs.set i x) (pre ++ mid' ++ post)

theorem fill_rel {G : List V → List Value → Prop} {place : Nat → Option (Nat × Nat)} {n : Nat} (S : Slots P φ G place n) :
    ∀ {ps : List (Nat × LK × V)} {qs : List (Nat × Value)} {vs us : List V} {cells : Array Value}, relPs P φ ps qs → (∀ i k v, (i, k, v) ∈ ps → ∀ off size, place i = some (off, size) → ∀ cs, LK.ok k v = true → relC P φ v cs → cs.length = size) →
      vs.length = n → G vs cells.toList → fillV ps vs = some us → ∃ cells' : Array Value, Instr.fill place cells qs = some cells' ∧ G us cells'.toList ∧ us.length = n
  | [], _, vs, us, cells, r, _, hn, g, h => by
    cases r
    simp only [fillV, Option.some.injEq] at h; subst h
    exact ⟨cells, rfl, g, hn⟩
  | (i, k, v) :: ps, _, vs, us, cells, r, hk, hn, g, h => by
    cases r with
    | cons rv r =>
      rename_i x qs
      simp only [fillV] at h
      split at h
      · rename_i hc
        obtain ⟨hi, hok⟩ := hc
        obtain ⟨pre, mid, post, e, hp, hs⟩ := S.get vs cells.toList i hn g (by omega)
        obtain ⟨ms, rm, rfl, hms⟩ := relV_cells hok rv
        have hlen : ms.length = mid.length := hk i k v (by simp) _ _ hp ms hok rm
        have hsz : (pack v ms).cells.size = ms.length := by rw [← Array.length_toList, hms]
        have htot : cells.size = pre.length + mid.length + post.length := by have := congrArg List.length e; simp at this; omega
        have hstep := fill_step (cells := cells) (vc := (pack v ms).cells) (off := pre.length) (by omega)
        have hnew : cells.toList.take pre.length ++ (pack v ms).cells.toList ++ cells.toList.drop (pre.length + (pack v ms).cells.size) = pre ++ ms ++ post := by
          rw [hms, hsz, e, hlen]
          congr 1
          · congr 1; simp [List.append_assoc]
          · rw [← List.length_append, List.drop_left]
        have g' := hs v ms rm hlen
        rw [← hnew, ← hstep] at g'
        obtain ⟨cells', f1, f2, f3⟩ := fill_rel S r (fun j k v hm => hk j k v (List.mem_cons_of_mem _ hm)) (by simpa using hn) g' h
        refine ⟨cells', ?_, f2, f3⟩
        simp only [Instr.fill, hp]
        rw [if_neg (by simp; omega)]
        exact f1
      · cases h

theorem slots_struct {fs : List Field} {place : Nat → Option (Nat × Nat)} (hp : ∀ i f, fs[i]? = some f → place i = some (f.offset, P.cellsOf f.type)) :
    Slots P φ (fun vs cs => relF P φ vs fs 0 cs) place fs.length where
  get := fun vs cs i hn g hi => by
    obtain ⟨u, hu⟩ : ∃ u, vs[i]? = some u := ⟨vs[i], List.getElem?_eq_getElem (by omega)⟩
    obtain ⟨f, pre, mid, post, g1, g2, g3, g4, g5, g6⟩ := relF_get g hu
    exact ⟨pre, mid, post, g2, by rw [hp i f g1, g3, g4]; simp, g6⟩

theorem slots_array {n s : Nat} {place : Nat → Option (Nat × Nat)} (hp : ∀ i, place i = some (i * s, s)) : Slots P φ (fun vs cs => relA P φ s vs cs) place n where
  get := fun vs cs i hn g hi => by
    obtain ⟨u, hu⟩ : ∃ u, vs[i]? = some u := ⟨vs[i], List.getElem?_eq_getElem (by omega)⟩
    obtain ⟨pre, mid, post, g2, g3, g4, g5, g6⟩ := relA_get g hu
    exact ⟨pre, mid, post, g2, by rw [hp i, g3, g4], fun x mid' rx hl => g6 x mid' rx (by omega)⟩

theorem run_mapM_sizes {fs : List Field} (h : ∀ f ∈ fs, (P.info? f.type).isSome = true) :
    (fs.mapM fun (f : Field) => do pure (f.offset, ← sizeOf f.type) : Sem (List (Nat × Nat))).run P w = .ok (fs.map fun f => (f.offset, P.cellsOf f.type)) w := by
  induction fs with
  | nil => rfl
  | cons f fs ih =>
    simp only [List.mapM_cons, Sem.run_bind, run_sizeOf' (h f (by simp)), Result.andThen_ok, Sem.run_pure, ih fun g hg => h g (List.mem_cons_of_mem _ hg), List.map_cons]

theorem fieldsFit_info {fs : List Field} {off size : Nat} (h : fieldsFit P fs off size = true) : ∀ f ∈ fs, (P.info? f.type).isSome = true := by
  induction fs generalizing off with
  | nil => intro f hf; cases hf
  | cons g fs ih =>
    simp only [fieldsFit, Bool.and_eq_true, decide_eq_true_eq] at h
    intro f hf
    rcases List.mem_cons.1 hf with rfl | hf
    · exact h.1.2
    · exact ih h.2 f hf

theorem partKinds_spec {fs : List Field} {E : Env} {a : Act} {nt : Nat} (r : ERel P φ E a nt) : ∀ {ps : List (Nat × Operand)} {ks : List (Nat × LK × Operand)}, partKinds P fs ps = some ks → (ps.all fun p => okOp nt p.2) = true →
    relPs P φ (parts E ks) (ps.map fun (i, x) => (i, a.eval x)) ∧ ∀ i k v, (i, k, v) ∈ parts E ks → ∃ f, fs[i]? = some f ∧ kind P f.type = some k
  | [], ks, h, _ => by
    simp only [partKinds, Option.some.injEq] at h; subst h
    exact ⟨.nil, fun i k v hm => by simp [parts] at hm⟩
  | (i, x) :: ps, ks, h, ho => by
    simp only [List.all_cons, Bool.and_eq_true] at ho
    simp only [partKinds] at h
    split at h
    · rename_i f hf
      split at h
      · rename_i k r' hk hr
        cases h
        obtain ⟨h1, h2⟩ := partKinds_spec r hr ho.2
        refine ⟨?_, ?_⟩
        · simp only [parts, List.map_cons]
          exact .cons (opv_rel r ho.1) h1
        · intro j k' v hm
          simp only [parts, List.map_cons, List.mem_cons, Prod.mk.injEq] at hm
          rcases hm with ⟨rfl, rfl, rfl⟩ | hm
          · exact ⟨f, hf, hk⟩
          · exact h2 j k' v hm
      · cases h
    · cases h

theorem parts_elem {E : Env} {a : Act} {nt : Nat} (r : ERel P φ E a nt) (k : LK) : ∀ {ps : List (Nat × Operand)}, (ps.all fun p => okOp nt p.2) = true →
    relPs P φ (parts E (ps.map fun (i, x) => (i, k, x))) (ps.map fun (i, x) => (i, a.eval x)) ∧ ∀ i k' v, (i, k', v) ∈ parts E (ps.map fun (i, x) => (i, k, x)) → k' = k
  | [], _ => ⟨.nil, fun i k v hm => by simp [parts] at hm⟩
  | (i, x) :: ps, ho => by
    simp only [List.all_cons, Bool.and_eq_true] at ho
    obtain ⟨h1, h2⟩ := parts_elem r k ho.2
    refine ⟨?_, ?_⟩
    · simp only [parts, List.map_cons]
      exact .cons (opv_rel r ho.1) h1
    · intro j k' v hm
      simp only [parts, List.map_cons, List.mem_cons, Prod.mk.injEq] at hm
      rcases hm with ⟨rfl, rfl, rfl⟩ | hm
      · rfl
      · exact h2 j k' v hm

theorem relC_St_len {t : TypeId} {vs : List V} {cs : List Value} {fs : List Field} (hf : fieldsOf P t = some fs) (r : relC P φ (.St t vs) cs) : vs.length = fs.length ∧ cs.length = P.cellsOf t ∧ relF P φ vs fs 0 cs := by
  simp only [relC] at r
  obtain ⟨fs', e, h1, h2, h3⟩ := r
  rw [hf] at e; cases e
  exact ⟨h1, h2, h3⟩

theorem relF_len {vs : List V} : ∀ {fs : List Field} {off : Nat} {cs cs' : List Value} {us : List V}, relF P φ vs fs off cs → relF P φ us fs off cs' → us.length = vs.length → cs'.length = cs.length := by
  induction vs with
  | nil => intro fs off cs cs' us r r' h; cases us <;> simp_all [relF]
  | cons v vs ih =>
    intro fs off cs cs' us r r' h
    cases us with
    | nil => simp at h
    | cons u us =>
      simp only [relF] at r r'
      obtain ⟨f, gs, c1, c2, rfl, e2, rfl, e4, r1, r2⟩ := r
      obtain ⟨f', gs', c1', c2', e1', e2', rfl, e4', r1', r2'⟩ := r'
      cases e1'
      have := ih r2 r2' (by simpa using h)
      simp; omega

theorem run_buildOf {E : Env} {a : Act} {nt : Nat} {t : TypeId} {ps : List (Nat × Operand)} {v : V} (r : ERel P φ E a nt) (h : buildOf P E t ps = some v) (ho : (ps.all fun p => okOp nt p.2) = true) :
    ∃ z, (Instr.build t (ps.map fun (i, x) => (i, a.eval x)).toArray).run P w = .ok z w ∧ relV P φ v z := by
  unfold buildOf at h
  split at h
  · rename_i u zs hz
    split at h
    · rename_i fs hf
      split at h
      · rename_i ks hks
        simp only [bldS, Option.map_eq_some_iff] at h
        obtain ⟨us, hfill, rfl⟩ := h
        obtain ⟨z, hzr, rz, _, k, hk, hok⟩ := zeroOf_val (φ := φ) (w := w) hz
        obtain ⟨hp1, hp2⟩ := partKinds_spec r hks ho
        rcases kind_desc hk with ⟨u', gs, rfl, e, hu, hf', hfit, _⟩ | ⟨n, e, rfl, _⟩ | ⟨rfl, _⟩
        · simp only [LK.ok, decide_eq_true_eq] at hok
          subst hok
          rw [hf] at hf'; cases hf'
          obtain ⟨l1, l2, l3⟩ := relC_St_len hf rz
          have hpl : ∀ (i : Nat) (f : Field), gs.toList[i]? = some f → ((gs.map fun (f : Field) => (f.offset, P.cellsOf f.type))[·]?) i = some (f.offset, P.cellsOf f.type) := by
            intro i f hi
            have : gs[i]? = some f := by simpa using hi
            simp [this]
          obtain ⟨cells', f1, f2, f3⟩ := fill_rel (P := P) (φ := φ) (slots_struct hpl) hp1 (by
            intro i k v hm off size hpp cs hokv rc
            obtain ⟨f, hfi, hkf⟩ := hp2 i k v hm
            have hpp' := hpl i f hfi
            simp only at hpp'
            rw [hpp'] at hpp
            cases hpp
            exact kind_size hkf hokv rc) l1 l3 hfill
          refine ⟨.agg cells', ?_, relV_St.2 ⟨cells'.toList, ?_, by simp⟩⟩
          · have hmm : (gs.mapM fun (f : Field) => do pure (f.offset, ← sizeOf f.type) : Sem (Array (Nat × Nat))).run P w = .ok (gs.map fun (f : Field) => (f.offset, P.cellsOf f.type)) w := by
              rw [Array.mapM_eq_mapM_toList, Sem.run_map, run_mapM_sizes (fieldsFit_info hfit)]
              simp only [Result.andThen_ok]
              congr 1
              apply Array.ext'
              simp
            simp only [Instr.build, Sem.run_bind, hzr, Result.andThen_ok, run_underlying hu, hmm]
            simp only [f1]
            rfl
          · simp only [relC]
            refine ⟨gs.toList, hf, f3, ?_, f2⟩
            rw [relF_len l3 f2 (by omega), l2]
        · simp [LK.ok] at hok
        · simp [LK.ok, V.leaf] at hok
      · cases h
    · cases h
  · rename_i e zs hz
    split at h
    · rename_i k hke
      simp only [bldA, Option.map_eq_some_iff] at h
      obtain ⟨us, hfill, rfl⟩ := h
      obtain ⟨z, hzr, rz, _, k', hk, hok⟩ := zeroOf_val (φ := φ) (w := w) hz
      obtain ⟨hp1, hp2⟩ := parts_elem r k ho
      rcases kind_desc hk with ⟨u', gs, rfl, _⟩ | ⟨n, e', rfl, hu, hsz⟩ | ⟨rfl, _⟩
      · simp [LK.ok] at hok
      · simp only [LK.ok, Bool.and_eq_true, decide_eq_true_eq] at hok
        obtain ⟨rfl, hn⟩ := hok
        simp only [relC] at rz
        obtain ⟨cells', f1, f2, f3⟩ := fill_rel (P := P) (φ := φ) (n := n) (slots_array (place := fun i => some (i * P.cellsOf e', P.cellsOf e')) fun i => rfl) hp1 (by
          intro i k'' v hm off size hpp cs hokv rc
          obtain rfl := hp2 i k'' v hm
          simp at hpp
          rw [kind_size hke hokv rc]; exact hpp.2) hn rz hfill
        refine ⟨.agg cells', ?_, relV_Ar.2 ⟨cells'.toList, by simpa only [relC] using f2, by simp⟩⟩
        simp only [Instr.build, Sem.run_bind, hzr, Result.andThen_ok, run_underlying hu, run_sizeOf' (kind_info hke)]
        simp only [f1]
        rfl
      · simp [LK.ok, V.leaf] at hok
    · cases h
  · cases h

end
end Go.Proofs.YtnnebakkcdclmaaGreat.AM
