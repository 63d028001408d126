/-
  Proved here, for every program: a part of the soundness of an abstract machine against the model: lemmas. Conditions: none.
-/
import Derived.Test.YtnnebakkcdclmaaGreatAMSound
import Derived.Test.YtnnebakkcdclmaaGreatAMDraw1
import Derived.Orders
namespace Go.Proofs.YtnnebakkcdclmaaGreat.AM

/-- A plan's facts. -/
structure Plan (nt : Nat) (L : List Oper) (pl : List Nat) : Prop where
  len : pl.length = L.length
  nodup : pl.Nodup
  lt : ∀ i, i ∈ pl → i < L.length
  all : ∀ i, i < L.length → i ∈ pl
  before : ∀ i j, j < L.length → i < L.length → ((anc L).getD j 0).testBit i = true → i < j ∧ pl.idxOf i < pl.idxOf j
  dst : ∀ i j oi oj d, L[i]? = some oi → L[j]? = some oj → i ≠ j → oi.dst = some d → oj.dst ≠ some d ∧ d < nt ∧ (d ∈ looks L oj → ((anc L).getD j 0).testBit i = true ∨ ((anc L).getD i 0).testBit j = true)
  acts : ∀ i j oi oj, L[i]? = some oi → L[j]? = some oj → cls oi.op = 3 → cls oj.op = 3 → i ≠ j → ((anc L).getD j 0).testBit i = true ∨ ((anc L).getD i 0).testBit j = true
  late : ∀ i j oi oj, L[i]? = some oi → L[j]? = some oj → cls oi.op = 2 → cls oj.op = 3 → pl.idxOf i < pl.idxOf j → ((anc L).getD j 0).testBit i = true
  early : ∀ i j oi oj, L[i]? = some oi → L[j]? = some oj → cls oi.op ≤ 1 → cls oj.op = 3 → pl.idxOf j < pl.idxOf i → ((anc L).getD i 0).testBit j = true

theorem plan_of {nt : Nat} {L : List Oper} (h : drawOk nt L = true) : Plan nt L (plan L) := by
  unfold drawOk at h
  simp only [Bool.and_eq_true, decide_eq_true_eq, List.all_eq_true, List.mem_range] at h
  obtain ⟨⟨⟨⟨h1, h2⟩, h3⟩, h4⟩, h5⟩ := h
  have key : ∀ i j oi oj, L[i]? = some oi → L[j]? = some oj → _ := fun i j oi oj hi hj =>
    h5 j ((List.getElem?_eq_some_iff.1 hj).1) i ((List.getElem?_eq_some_iff.1 hi).1)
  refine ⟨h1, h2, h3, fun i hi => by simpa using h4 i hi, ?_, ?_, ?_, ?_, ?_⟩
  · intro i j hj hi hb
    have := (h5 j hj i hi).1.1.1.1
    simp only [hb, Bool.not_true, Bool.false_or, Bool.and_eq_true, decide_eq_true_eq] at this
    exact this
  · intro i j oi oj d hi hj hne hd
    have := (key i j oi oj hi hj).1.1.1.2
    simp only [hi, hj, Option.bind_some, hd, Bool.or_eq_true, beq_iff_eq, hne, false_or, Bool.and_eq_true, bne_iff_ne, decide_eq_true_eq, Bool.not_eq_true'] at this
    refine ⟨this.1.1, this.1.2, fun hl => ?_⟩
    rcases this.2 with (h | h) | h
    · have : (looks L oj).contains d = true := by simpa using hl
      rw [this] at h; cases h
    · exact .inl h
    · exact .inr h
  · intro i j oi oj hi hj ci cj hne
    have := (key i j oi oj hi hj).1.1.2
    simp only [hi, hj, Option.map_some, Option.getD_some, ci, cj, beq_self_eq_true, Bool.and_self, Bool.not_true, Bool.false_or, Bool.or_eq_true, beq_iff_eq, hne, false_or] at this
    exact this
  · intro i j oi oj hi hj ci cj hlt
    have := (key i j oi oj hi hj).1.2
    simp only [hi, hj, Option.map_some, Option.getD_some, ci, cj, beq_self_eq_true, Bool.and_self, hlt, decide_true, Bool.not_true, Bool.false_or] at this
    exact this
  · intro i j oi oj hi hj ci cj hlt
    have := (key i j oi oj hi hj).2
    simp only [hi, hj, Option.map_some, Option.getD_some, cj, beq_self_eq_true, hlt, ci, decide_true, Bool.and_true, Bool.not_true, Bool.false_or] at this
    exact this

theorem idxOf_get {pl : List Nat} {i : Nat} (h : i ∈ pl) : pl[pl.idxOf i]? = some i := by
  have := List.idxOf_lt_length_of_mem h
  rw [List.getElem?_eq_getElem this]
  simp

theorem idxOf_of_get {pl : List Nat} (hn : pl.Nodup) {p i : Nat} (h : pl[p]? = some i) : pl.idxOf i = p := by
  have hp : p < pl.length := (List.getElem?_eq_some_iff.1 h).1
  have hi : pl[p] = i := (List.getElem?_eq_some_iff.1 h).2
  subst hi
  exact List.Nodup.idxOf_getElem hn p hp

section
variable {P : Program} {φ : Phi} {h : H} {w : World}

/-- A block that was laid ahead gets its number's content. -/
theorem Rel.commit (R : Rel P φ h w) {l : Loc} (hl : φ h.next = some l) (hb0 : l.base = 0) {blk : Blk} {o : Obj} (hg : w.heap[l.cb]? = some o) (ho : ObjOk P φ blk o l.top)
    (ha : ∀ b x m, h.get b = some x → φ b = some m → m.cb ≠ l.cb) : Rel P φ (h.new blk) w := by
  have back : ∀ c' y, (h.new blk).get c' = some y → (c' = h.next ∧ y = blk) ∨ (c' ≠ h.next ∧ h.get c' = some y) := by
    intro c' y hy
    rw [H.get_new] at hy
    by_cases e : c' = h.next
    · rw [if_pos e] at hy; exact .inl ⟨e, by simpa using hy.symm⟩
    · rw [if_neg e] at hy; exact .inr ⟨e, hy⟩
  refine ⟨?_, ?_, ?_⟩
  · intro d y hy
    rcases back d y hy with ⟨rfl, _⟩ | ⟨_, hy⟩
    · simp
    · have := R.lt _ _ hy; simp; omega
  · intro d y hy
    rcases back d y hy with ⟨rfl, rfl⟩ | ⟨_, hy⟩
    · refine ⟨l, hl, ?_⟩
      cases y with
      | c k v =>
        obtain ⟨rfl, c, e, cs, rfl, h2, h3, h4⟩ := ho
        exact ⟨c, e, (0, 0), cs, hg, h2, fun _ => rfl, h3, fun i x hx => by rw [hb0, Nat.zero_add]; exact h4 i x hx⟩
      | m es =>
        obtain ⟨rfl, rfl, _⟩ := ho
        exact ⟨#[], 0, hg, by simp [relM]⟩
    · exact R.ok d y hy
  · intro d d' y z m m' hy hz hm hm' e
    rcases back d y hy with ⟨rfl, rfl⟩ | ⟨_, ky⟩ <;> rcases back d' z hz with ⟨rfl, rfl⟩ | ⟨_, kz⟩
    · exact .inl rfl
    · rw [hl] at hm; cases hm
      exact absurd e.symm (ha _ _ _ kz hm')
    · rw [hl] at hm'; cases hm'
      exact absurd e (ha _ _ _ ky hm)
    · exact R.inj _ _ _ _ _ _ ky kz hm hm' e

/-- The world grows by a block that no number has. -/
theorem Rel.grow (R : Rel P φ h w) {φ' : Phi} (hle : φ.le φ') (o : Obj) : Rel P φ' h (w.alloc o) := by
  have up : ∀ b x m, h.get b = some x → φ' b = some m → φ b = some m := by
    intro b x m hx hm
    obtain ⟨l, hl, _⟩ := R.ok b x hx
    have := hle _ _ hl
    rw [this] at hm; cases hm; exact hl
  refine ⟨R.lt, fun b x hx => ?_, fun b c x y l m hx hy hl hm => R.inj b c x y l m hx hy (up _ _ _ hx hl) (up _ _ _ hy hm)⟩
  obtain ⟨l, hl, hB⟩ := R.ok b x hx
  exact ⟨l, hle _ _ hl, hB.mono hle (alloc_other w o hB.lt)⟩

end

/-- What is kept while blocks are laid ahead. -/
structure KP (φ0 : Phi) (h0 : H) (w0 : World) (φ : Phi) (hs : H) (w : World) (M : Nat) : Prop where
  ext : φ0.le φ
  out : ∀ b, (b < h0.next ∨ M ≤ b) → φ b = φ0 b
  size : w0.heap.size ≤ w.heap.size
  same : ∀ cb, cb < w0.heap.size → (∀ b x l, h0.get b = some x → x.ro = false → φ0 b = some l → l.cb ≠ cb) → w.heap[cb]? = w0.heap[cb]?
  fz : ∀ a, w.frozen? a = w0.frozen? a
  os : w.os = w0.os
  outp : w.output = w0.output
  news : ∀ b x l, hs.get b = some x → x.ro = false → φ b = some l → w0.heap.size ≤ l.cb ∨ ∃ b0 x0 l0, h0.get b0 = some x0 ∧ x0.ro = false ∧ φ0 b0 = some l0 ∧ l0.cb = l.cb

end Go.Proofs.YtnnebakkcdclmaaGreat.AM
