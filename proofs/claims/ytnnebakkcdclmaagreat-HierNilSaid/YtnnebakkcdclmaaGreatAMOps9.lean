/-
  Proved here, for every program: a part of the soundness of an abstract machine against the model: lemmas. Conditions: none.
-/
import Derived.Test.YtnnebakkcdclmaaGreatAMOps8
namespace Go.Proofs.YtnnebakkcdclmaaGreat.AM
section
variable {P : Program} {φ : Phi} {w : World} {h : H}

/-! Slices' values. -/
theorem elems_rel {e : Nat} {y : V} {ys : List V} {vy : Value} (R : Rel P φ h w) (he : elems e y h = some ys) (ry : relV P φ y vy) :
    ∃ base c' cs, vy = .slice base ys.length c' ∧ relA P φ (P.cellsOf e) ys cs ∧ (Builtin.firstCells (P.cellsOf e) ys.length vy).run P w = .ok cs.toArray w ∧
      (∀ a, base = some a → ∀ (j : Nat) x, cs[j]? = some x → w.cell? (a.add j) = some x) := by
  cases y <;> first | (simp [elems] at he; done) | skip
  · rename_i b p t s n c op
    simp only [elems] at he
    split at he
    · rename_i hn0
      subst hn0
      cases he
      obtain ⟨a, c', rfl⟩ := relV_Lany ry
      refine ⟨some a, c', [], rfl, by simp [relA], ?_, fun a _ j x hj => by simp at hj⟩
      simp only [List.length_nil, Builtin.firstCells]
      exact run_loadCells_list (P := P) w a [] (fun j x hj => by simp at hj) |> fun h => by simpa using h
    rename_i hn0
    split at he
    · rename_i bk v hb
      split at he
      · rename_i t' vs hv
        split at he
        · rename_i hc
          obtain ⟨rfl, rfl, hlen⟩ := hc
          cases he
          obtain ⟨L, off, c', hL, rfl, hnc, hoff, hcap⟩ | ⟨h0, _⟩ := relV_L.1 ry
          case inr => exact absurd h0 hn0
          obtain ⟨cc, e', fr, cs, pre, mid, post, h1, h2, h3, h4, h5, g1, g2, g3, g4, g5, g6⟩ := cells_of R hb hL hv
          simp only [relC] at g3
          obtain ⟨_, hd⟩ := relA_take s g3
          obtain ⟨ht, _⟩ := relA_take n hd
          have hn : (List.take n (List.drop s vs)).length = n := by simp; omega
          have hl : ((mid.drop (s * P.cellsOf t')).take (n * P.cellsOf t')).length = n * P.cellsOf t' := by
            have := relA_length ht
            rw [hn] at this; exact this
          have hcells : ∀ (j : Nat) x, ((mid.drop (s * P.cellsOf t')).take (n * P.cellsOf t'))[j]? = some x → w.cell? ((⟨L.cb, off, none⟩ : Addr).add j) = some x := by
            intro j x hj
            rw [add_eq]
            have hjl : j < n * P.cellsOf t' := by
              have := (List.getElem?_eq_some_iff.1 hj).1; omega
            have hoff' : off = L.base + offs P p + s * P.cellsOf t' := by
              rcases hoff with h | ⟨h, _⟩
              · exact h
              · subst h; simp at hjl
            rw [List.getElem?_take, if_pos hjl, List.getElem?_drop] at hj
            have := g6 _ x hj
            rw [hoff']
            rw [show L.base + offs P p + s * P.cellsOf t' + j = L.base + offs P p + (s * P.cellsOf t' + j) from by omega]
            exact this
          have hrun := run_loadCells_list (P := P) w ⟨L.cb, off, none⟩ ((mid.drop (s * P.cellsOf t')).take (n * P.cellsOf t')) hcells
          rw [hl] at hrun
          refine ⟨_, c', _, by rw [hn], ht, ?_, ?_⟩
          · rw [hn]; simp only [Builtin.firstCells]; exact hrun
          · intro a ha; cases ha; exact hcells
        · cases he
      · cases he
    · cases he
  · simp only [elems, Option.some.injEq] at he
    subst he
    obtain rfl := relV_L0.1 ry
    exact ⟨none, 0, [], rfl, by simp [relA], rfl, fun a ha => by cases ha⟩

theorem allOk_spec {k : LK} {vs : List V} (h : allOk k vs = true) : ∀ v ∈ vs, LK.ok k v = true := by
  simpa [allOk] using h

theorem relA_one' {n : Nat} {vs : List V} {cs : List Value} (r : relA P φ n vs cs) : ∀ x ∈ cs, x.oneCell' = true := relA_one r

theorem lay_rel {n : Nat} {vs ys : List V} {cs ds : List Value} (j : Nat) (r : relA P φ n vs cs) (ry : relA P φ n ys ds) : relA P φ n (lay vs j ys) (cs.take (j * n) ++ ds ++ cs.drop ((j + ys.length) * n)) := by
  unfold lay
  exact relA_append (relA_append (relA_take j r).1 ry) (relA_take (j + ys.length) r).2

/-- Values are laid over a part of a row. -/
theorem run_lay {b : Nat} {bk : BK} {v v' : V} {p : List Step} {e : Nat} {vs ys : List V} {ds : List Value} {j : Nat} (R : Rel P φ h w) (hb : h.get b = some (.c bk v)) (hro : bk ≠ .ro) {l : Loc} (hl : φ b = some l)
    (hv : V.at p v = some (.Ar e vs)) (ry : relA P φ (P.cellsOf e) ys ds) (hj : j + ys.length ≤ vs.length) (hp : V.put p v (.Ar e (lay vs j ys)) = some v') :
    ∃ w', (storeCells ⟨l.cb, l.base + offs P p + j * P.cellsOf e, none⟩ ds).run P w = .ok () w' ∧ Rel P φ (h.put b (some (.c bk v'))) w' ∧ Keep φ h w φ (h.put b (some (.c bk v'))) w' := by
  obtain ⟨cc, e', fr, cs, pre, mid, post, h1, h2, h3, h4, h5, g1, g2, g3, g4, g5, g6⟩ := cells_of R hb hl hv
  obtain rfl := h3 hro
  simp only [relC] at g3
  have hmid := relA_length g3
  have hds := relA_length ry
  have r' := lay_rel j g3 ry
  have hk : j * P.cellsOf e + ds.length ≤ mid.length := by
    rw [hds, hmid, ← Nat.add_mul]; exact Nat.mul_le_mul_right _ hj
  have hk2 : (j + ys.length) * P.cellsOf e = j * P.cellsOf e + ds.length := by rw [hds, Nat.add_mul]
  rw [hk2] at r'
  have hlen : (mid.take (j * P.cellsOf e) ++ ds ++ mid.drop (j * P.cellsOf e + ds.length)).length = mid.length := by simp; omega
  have rc := g4 (.Ar e (lay vs j ys)) _ v' (by simpa only [relC] using r') hlen hp
  have hcs : cs = (pre ++ mid.take (j * P.cellsOf e)) ++ (mid.drop (j * P.cellsOf e)).take ds.length ++ (mid.drop (j * P.cellsOf e + ds.length) ++ post) := by
    rw [g1]
    have : mid = mid.take (j * P.cellsOf e) ++ ((mid.drop (j * P.cellsOf e)).take ds.length ++ mid.drop (j * P.cellsOf e + ds.length)) := by
      rw [← List.drop_drop, List.take_append_drop, List.take_append_drop]
    conv => lhs; rw [this]
    simp [List.append_assoc]
  have hbl : ds.length = ((mid.drop (j * P.cellsOf e)).take ds.length).length := by simp; omega
  have hal : (pre ++ mid.take (j * P.cellsOf e)).length = offs P p + j * P.cellsOf e := by simp; omega
  have hsz : l.base + offs P p + j * P.cellsOf e + ds.length ≤ cc.size ∨ ds = [] := by
    by_cases hz : ds.length = 0
    · exact .inr (List.eq_nil_of_length_eq_zero hz)
    · left
      obtain ⟨y, hy⟩ : ∃ y, mid[j * P.cellsOf e + ds.length - 1]? = some y := ⟨mid[j * P.cellsOf e + ds.length - 1], List.getElem?_eq_getElem (by omega)⟩
      have := (Array.getElem?_eq_some_iff.1 (g5 _ y hy)).1
      omega
  rcases hsz with hsz | hz
  · have hst := run_storeCells_at (P := P) l.cb (l.base + offs P p + j * P.cellsOf e) e' ds 0 cc w h1 (by omega) (relA_one ry)
    refine ⟨_, hst, R.put_c hb hro hl h1 rc ?_ ?_⟩
    · simp; omega
    · intro i x hx
      have hx' : ((pre ++ mid.take (j * P.cellsOf e)) ++ ds ++ (mid.drop (j * P.cellsOf e + ds.length) ++ post))[i]? = some x := by
        simpa [List.append_assoc] using hx
      have := list_splice (d := cc.toList) (n := l.base) hcs ds hbl (by simpa using h5) hal i x hx'
      have e1 : l.base + (offs P p + j * P.cellsOf e) = l.base + offs P p + j * P.cellsOf e := by omega
      rw [e1] at this
      simpa using this
  · subst hz
    refine ⟨w, rfl, ?_⟩
    have := R.put_c (c' := cc) hb hro hl h1 rc h2 (by
      intro i x hx
      have hx' : cs[i]? = some x := by
        rw [g1]; simpa [List.append_assoc] using hx
      exact h5 i x hx')
    rwa [setRow_self w l.cb cc e' (0, 0) h1] at this

end
end Go.Proofs.YtnnebakkcdclmaaGreat.AM
