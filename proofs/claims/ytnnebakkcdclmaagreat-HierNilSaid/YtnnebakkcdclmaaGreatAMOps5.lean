/-
  Proved here, for every program: a part of the soundness of an abstract machine against the model: lemmas. Conditions: none.
-/
import Derived.Test.YtnnebakkcdclmaaGreatAMOps4
namespace Go.Proofs.YtnnebakkcdclmaaGreat.AM
section
variable {P : Program} {φ : Phi} {h : H} {w : World}

/-- A value of a kind, and its cells. -/
theorem relV_cells {k : LK} {v : V} {x : Value} (ho : LK.ok k v = true) (r : relV P φ v x) : ∃ cs, relC P φ v cs ∧ x = pack v cs ∧ x.cells.toList = cs := by
  rcases r with ⟨cs, r, rfl⟩ | r
  · refine ⟨cs, r, rfl, ?_⟩
    by_cases hv : v.leaf = true
    · obtain ⟨y, rfl, hy⟩ := relC_leaf hv r
      rw [pack_leaf hv]
      cases y <;> simp [Value.oneCell'] at hy <;> rfl
    · cases v <;> first | (exact absurd rfl hv) | skip
      · rfl
      · rfl
      · simp only [relC] at r
  · cases v <;> simp only [relT] at r
    cases k <;> exact absurd (show false = true from ho) (by simp)

theorem run_loadVar {t : TypeId} {k : LK} {u : V} {mid : List Value} {b o : Nat} (hk : kind P t = some k) (ho : LK.ok k u = true) (r : relC P φ u mid)
    (hc : ∀ (j : Nat) x, mid[j]? = some x → w.cell? ⟨b, o + j, none⟩ = some x) : (loadVar t ⟨b, o, none⟩).run P w = .ok (pack u mid) w := by
  have hl := kind_size hk ho r
  have hleaf := kind_leaf ho
  simp only [loadVar, Sem.run_bind, run_isAgg hk, Result.andThen_ok]
  by_cases hv : u.leaf = true
  · rw [hleaf, hv]
    obtain ⟨x, rfl, _⟩ := relC_leaf hv r
    have := hc 0 x rfl
    rw [pack_leaf hv]
    simp only [Nat.add_zero] at this
    simp [this]
  · have hv' : u.leaf = false := by simpa using hv
    rw [hleaf, hv']
    simp only [Bool.not_false, if_true, Sem.run_bind, run_sizeOf' (kind_info hk), Result.andThen_ok, ← hl]
    rw [run_loadCells_list w ⟨b, o, none⟩ mid fun j v hj => by rw [add_eq]; exact hc j v hj]
    have : pack u mid = .agg mid.toArray := by
      cases u <;> first | (exact absurd rfl hv) | rfl | (simp only [relC] at r)
    rw [this]; rfl

/-- The cells beneath a part of a block. -/
theorem cells_of {b : Nat} {bk : BK} {v u : V} {p : List Step} (R : Rel P φ h w) (hb : h.get b = some (.c bk v)) {l : Loc} (hl : φ b = some l) (hu : V.at p v = some u) :
    ∃ c e fr cs pre mid post, w.heap[l.cb]? = some (.cells c e fr) ∧ c.size = l.top ∧ (bk ≠ .ro → fr = (0, 0)) ∧ relC P φ v cs ∧ (∀ (i : Nat) x, cs[i]? = some x → c[l.base + i]? = some x) ∧
      cs = pre ++ mid ++ post ∧ pre.length = offs P p ∧ relC P φ u mid ∧ (∀ x mid' v', relC P φ x mid' → mid'.length = mid.length → V.put p v x = some v' → relC P φ v' (pre ++ mid' ++ post)) ∧
      (∀ (j : Nat) x, mid[j]? = some x → c[l.base + offs P p + j]? = some x) ∧ (∀ (j : Nat) x, mid[j]? = some x → w.cell? ⟨l.cb, l.base + offs P p + j, none⟩ = some x) := by
  obtain ⟨l', hl', hB⟩ := R.ok b _ hb
  rw [hl] at hl'; cases hl'
  obtain ⟨c, e, fr, cs, h1, h2, h3, h4, h5⟩ := hB
  obtain ⟨pre, mid, post, g1, g2, g3, g4⟩ := relC_at p h4 hu
  have hcell : ∀ (j : Nat) x, mid[j]? = some x → c[l.base + offs P p + j]? = some x := by
    intro j x hj
    have hlt : j < mid.length := (List.getElem?_eq_some_iff.1 hj).1
    have : cs[offs P p + j]? = some x := by
      rw [g1, ← g2, List.append_assoc, List.getElem?_append_right (by omega), List.getElem?_append_left (by omega)]
      rw [← hj]; congr 1; omega
    rw [Nat.add_assoc]
    exact h5 _ x this
  refine ⟨c, e, fr, cs, pre, mid, post, h1, h2, h3, h4, h5, g1, g2, g3, g4, hcell, fun j x hj => ?_⟩
  simp only [World.cell?, h1]
  simpa using hcell j x hj

theorem run_ld {t : TypeId} {k : LK} {x u : V} {a : Value} (hk : kind P t = some k) (R : Rel P φ h w) (hl : ld k x h = some u) (ra : relV P φ x a) :
    ∃ z, (Instr.loadAt t a).run P w = .ok z w ∧ relV P φ u z := by
  unfold ld at hl
  split at hl
  · rename_i b p
    split at hl
    · rename_i bk v hb
      split at hl
      · rename_i u' hu
        split at hl
        · rename_i hok
          cases hl
          obtain ⟨L, hL, rfl⟩ := relV_P.1 ra
          obtain ⟨c, e, fr, cs, pre, mid, post, _, _, _, _, _, _, _, r, _, _, hc⟩ := cells_of R hb hL hu
          refine ⟨_, ?_, relV_of r⟩
          simp only [Instr.loadAt, Sem.run_bind, Instr.sureAddr, Sem.run_pure, Result.andThen_ok]
          exact run_loadVar hk hok r hc
        · cases hl
      · cases hl
    · cases hl
  · cases hl

theorem list_splice {α : Type} {l : List α} {a b c : List α} (h : l = a ++ b ++ c) (b' : List α) (hb : b'.length = b.length) {d : List α} {n n' : Nat} (hd : ∀ (i : Nat) x, l[i]? = some x → d[n + i]? = some x) (hn : a.length = n') :
    ∀ (i : Nat) x, (a ++ b' ++ c)[i]? = some x → (d.take (n + n') ++ b' ++ d.drop (n + n' + b'.length))[n + i]? = some x := by
  intro i x hx
  have hlen : ∀ i, i < l.length → n + i < d.length := fun i hi => by
    obtain ⟨y, hy⟩ : ∃ y, l[i]? = some y := ⟨l[i], List.getElem?_eq_getElem hi⟩
    exact (List.getElem?_eq_some_iff.1 (hd i y hy)).1
  have hi : i < (a ++ b' ++ c).length := (List.getElem?_eq_some_iff.1 hx).1
  have hl : l.length = a.length + b.length + c.length := by rw [h]; simp; omega
  have hi' : i < l.length := by simp at hi; omega
  have hnd := hlen i hi'
  simp only [List.getElem?_append, List.length_append, List.length_take, List.getElem?_take, List.getElem?_drop] at hx ⊢
  by_cases h1 : i < a.length
  · have hla : l[i]? = some x := by
      rw [h]; simp only [List.getElem?_append, List.length_append]
      rw [if_pos (by omega), if_pos h1]
      rw [if_pos (by omega), if_pos h1] at hx
      exact hx
    rw [if_pos (by omega), if_pos (by omega), if_pos (by omega)]
    exact hd i x hla
  · by_cases h2 : i < a.length + b'.length
    · rw [if_pos h2, if_neg h1] at hx
      have hmin : min (n + n') d.length = n + n' := by
        by_cases hz : b.length = 0
        · omega
        · have := hlen (i) hi'; omega
      rw [if_pos (by omega), if_neg (by omega), hmin]
      rw [← hx]; congr 1; omega
    · rw [if_neg h2] at hx
      have hla : l[i]? = some x := by
        rw [h]; simp only [List.getElem?_append, List.length_append]
        rw [if_neg (by omega), ← hx]; congr 1; omega
      have hmin : min (n + n') d.length = n + n' := by omega
      rw [if_neg (by omega), hmin]
      have := hd i x hla
      rw [← this]; congr 1; omega

/-- A store, in the model. -/
theorem run_storeVar {t : TypeId} {k : LK} {v : V} {x : Value} {cs : List Value} {g o : Nat} {c : Array Value} {e : TypeId} (hk : kind P t = some k) (ho : LK.ok k v = true) (r : relC P φ v cs) (hx : x.cells.toList = cs)
    (hg : w.heap[g]? = some (.cells c e (0, 0))) (hsz : o + cs.length ≤ c.size) :
    (storeVar t ⟨g, o, none⟩ x).run P w = .ok () (w.setRow g (c.toList.take o ++ cs ++ c.toList.drop (o + cs.length)).toArray) := by
  have hl := kind_size hk ho r
  have hcs : x.cells.size = cs.length := by rw [← hx]; simp
  simp only [storeVar, Sem.run_bind, run_sizeOf' (kind_info hk), Result.andThen_ok]
  rw [if_neg (by omega), hx]
  have := run_storeCells_at (P := P) g o e cs 0 c w hg (by omega) (relC_one r)
  simpa using this

theorem run_sto {t : TypeId} {k : LK} {a x : V} {va vx : Value} {h' : H} (hk : kind P t = some k) (R : Rel P φ h w) (hs : sto k a x h = some h') (ra : relV P φ a va) (rx : relV P φ x vx) :
    ∃ w', (Instr.storeAt t va vx).run P w = .ok () w' ∧ Rel P φ h' w' ∧ Keep φ h w φ h' w' := by
  unfold sto at hs
  split at hs
  · rename_i b p
    split at hs
    · rename_i bk v hb
      split at hs
      · cases hs
      · rename_i hro
        split at hs
        · rename_i u hu
          split at hs
          · rename_i hok
            simp only [Bool.and_eq_true] at hok
            split at hs
            · rename_i v' hp
              cases hs
              obtain ⟨L, hL, rfl⟩ := relV_P.1 ra
              obtain ⟨c, e, fr, cs, pre, mid, post, h1, h2, h3, h4, h5, g1, g2, g3, g4, g5, g6⟩ := cells_of R hb hL hu
              obtain rfl := h3 hro
              obtain ⟨ms, rm, rfl, hms⟩ := relV_cells hok.2 rx
              have hlen : ms.length = mid.length := by rw [kind_size hk hok.2 rm, kind_size hk hok.1 g3]
              have hsz : L.base + offs P p + ms.length ≤ c.size := by
                have hz : ¬ mid.length = 0 := by have := kind_pos hk; have := kind_size hk hok.1 g3; omega
                · obtain ⟨y, hy⟩ : ∃ y, mid[mid.length - 1]? = some y := ⟨mid[mid.length - 1], List.getElem?_eq_getElem (by omega)⟩
                  have := (Array.getElem?_eq_some_iff.1 (g5 _ y hy)).1
                  omega
              refine ⟨_, ?_, R.put_c hb hro hL h1 (g4 x ms v' rm hlen hp) (c' := (c.toList.take (L.base + offs P p) ++ ms ++ c.toList.drop (L.base + offs P p + ms.length)).toArray) ?_ ?_⟩
              · simp only [Instr.storeAt, Sem.run_bind, Instr.sureAddr, Sem.run_pure, Result.andThen_ok]
                exact run_storeVar hk hok.2 rm hms h1 hsz
              · simp; omega
              · intro i y hy
                have := list_splice (d := c.toList) (n := L.base) g1 ms hlen (by simpa using h5) g2 i y hy
                simpa using this
            · cases hs
          · cases hs
        · cases hs
    · cases hs
  · cases hs

end
end Go.Proofs.YtnnebakkcdclmaaGreat.AM
