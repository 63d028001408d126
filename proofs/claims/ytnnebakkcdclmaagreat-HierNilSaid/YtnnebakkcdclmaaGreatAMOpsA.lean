/-
  Proved here, for every program: a part of the soundness of an abstract machine against the model: lemmas. Conditions: none.
-/
import Derived.Test.YtnnebakkcdclmaaGreatAMOps9
namespace Go.Proofs.YtnnebakkcdclmaaGreat.AM
section
variable {P : Program} {φ : Phi} {w : World} {h : H}

theorem growBy_le (need : Nat) : ∀ (r c : Nat), c ≤ 2 * need + 768 → Builtin.growBy need r c ≤ 2 * need + 768
  | 0, c, h => h
  | r + 1, c, h => by
    unfold Builtin.growBy
    split
    · exact h
    · exact growBy_le need r _ (by omega)

theorem nextslicecap_le {need old : Nat} (h : old < need) : Builtin.nextslicecap need old ≤ 2 * need + 768 := by
  unfold Builtin.nextslicecap
  split
  · omega
  · split
    · omega
    · exact growBy_le need 4 old (by omega)

theorem run_lenOf {base : Option Addr} {n c : Nat} : (Builtin.lenOf (.slice base n c)).run P w = .ok n w := rfl

/-- The room that an append gets. -/
theorem run_choose_cap (need old : Nat) (e : TypeId) : ∃ nc, need ≤ nc ∧ (choose (.appendCap need old e)).run P w = .ok nc w.drew := by
  refine ⟨(Question.appendCap need old e).cut (w.tape w.drawn (.appendCap need old e)), ?_, rfl⟩
  exact Nat.le_add_right _ _

theorem Rel.drew (R : Rel P φ h w) : Rel P φ h w.drew := ⟨R.lt, fun b x hx => by
  obtain ⟨l, hl, hb⟩ := R.ok b x hx
  exact ⟨l, hl, hb.mono (Phi.le_refl φ) rfl⟩, R.inj⟩
theorem Keep.drew (φ : Phi) (h : H) (w : World) : Keep φ h w φ h w.drew :=
  ⟨Phi.le_refl φ, fun _ _ => rfl, Nat.le_refl _, Nat.le_refl _, fun _ _ _ => rfl, fun _ => rfl, rfl, rfl, fun b x l h1 h2 h3 => .inr ⟨b, x, l, h1, h2, h3, rfl⟩, fun _ _ h _ => h⟩

theorem zeroCells_size (z : Array Value) (n : Nat) : (Builtin.zeroCells z n).size = n * z.size := by simp [Builtin.zeroCells]

/-- What append asks of its types. -/
structure AppT (P : Program) (t u : TypeId) (e : TypeId) (k : LK) : Prop where
  ht : P.underlying t = some (.slice e)
  hu : ∃ e', P.underlying u = some (.slice e')
  hk : kind P e = some k
  hz : ∃ z, zeroOf P e = some z
  b0 : P.bytesOf e ≠ 0
  b1 : P.bytesOf e ≤ 1048576

theorem run_append_room {t u ty : TypeId} {e : TypeId} {k : LK} (T : AppT P t u e k) {base : Option Addr} {n c m : Nat} {b' : Option Addr} {c' : Nat} (hnc : n + m ≤ c) :
    (Builtin.append_ #[t, u] ty #[.slice base n c, .slice b' m c']).run P w =
      ((Builtin.firstCells (P.cellsOf e) m (.slice b' m c')).run P w).andThen fun new w1 =>
        ((match base with | some a => storeCells (a.add (n * P.cellsOf e)) new.toList | none => pure () : Sem Unit).run P w1).andThen fun _ w2 => .ok (.slice base (n + m) c) w2 := by
  obtain ⟨e', hu⟩ := T.hu
  obtain ⟨i, hi⟩ := info_of_isSome (kind_info T.hk)
  simp only [Builtin.append_, List.getElem?_toArray, List.getElem?_cons_zero, List.getElem?_cons_succ, Sem.run_bind, run_underlying T.ht, run_underlying hu, run_sizeOf' (kind_info T.hk), Result.andThen_ok, Sem.run_pure, Builtin.lenOf, Bool.false_eq_true, if_false, if_pos hnc,
    Bool.not_false, if_true]
  cases base
  · rfl
  · congr 1
    funext a w'
    simp only [Sem.run_bind, Sem.run_pure]

theorem run_append_grow {t u ty : TypeId} {e : TypeId} {k : LK} (T : AppT P t u e k) {base : Option Addr} {n c m : Nat} {b' : Option Addr} {c' : Nat} (hnc : c < n + m) (hlim : n + m ≤ 16777216) :
    ∃ nc z, n + m ≤ nc ∧ (zeroOf P e).isSome ∧ z.size = P.cellsOf e ∧
    (Builtin.append_ #[t, u] ty #[.slice base n c, .slice b' m c']).run P w =
      ((Builtin.firstCells (P.cellsOf e) n (.slice base n c)).run P w.drew).andThen fun old w1 => ((Builtin.firstCells (P.cellsOf e) m (.slice b' m c')).run P w1).andThen fun new w2 =>
        .ok (.slice (some ⟨w2.heap.size, 0, none⟩) (n + m) nc) (w2.alloc (.cells (old ++ new ++ Builtin.zeroCells z (nc - (n + m))) e)) := by
  obtain ⟨e', hu⟩ := T.hu
  obtain ⟨i, hi⟩ := info_of_isSome (kind_info T.hk)
  obtain ⟨zv, hzv⟩ := T.hz
  obtain ⟨k', i', z, hk', hi', hzz, hok, rz, _⟩ := zeroOf_rel (φ := fun _ => none) hzv
  rw [hi] at hi'; cases hi'
  have hsz : z.cells.size = P.cellsOf e := by have := kind_size hk' hok rz; simpa using this
  obtain ⟨nc, hnc', hch⟩ := run_choose_cap (P := P) (w := w) (n + m) c e
  have hb : i.bytes = P.bytesOf e := by simp [Program.bytesOf, hi]
  have hb0 : ¬ i.bytes = 0 := by rw [hb]; exact T.b0
  have hb1 : i.bytes ≤ 1048576 := by rw [hb]; exact T.b1
  have hbig : ¬ (Builtin.nextslicecap (n + m) c * i.bytes > 2 ^ 48) := by
    have h1 := nextslicecap_le hnc
    have h2 : Builtin.nextslicecap (n + m) c * i.bytes ≤ (2 * 16777216 + 768) * 1048576 := Nat.mul_le_mul (by omega) hb1
    have h3 : (2 * 16777216 + 768) * 1048576 ≤ 2 ^ 48 := by decide
    omega
  have hroom : ∀ (b : Nat) (w : World), (askRoom b).run P w = .ok () w := fun b w => by unfold askRoom; split <;> rfl
  refine ⟨nc, z.cells, hnc', by simp [hzv], hsz, ?_⟩
  simp only [Builtin.append_, List.getElem?_toArray, List.getElem?_cons_zero, List.getElem?_cons_succ, Sem.run_bind, run_underlying T.ht, run_underlying hu, run_sizeOf' (kind_info T.hk), Result.andThen_ok, Sem.run_pure, Builtin.lenOf, Bool.false_eq_true, if_false, if_neg (Nat.not_le.2 hnc),
    Bool.not_false, if_true, run_typeInfo _ hi, hb0, false_or, and_false, hbig, hch, hroom, run_zeroValue hi hzz, run_newRow]

theorem firstCells_heap {n m : Nat} {v : Value} {c : Array Value} (hs : (Builtin.firstCells n m v).run P w = .ok c w) : (Builtin.firstCells n m v).run P w.drew = .ok c w.drew := by
  cases v <;> simp only [Builtin.firstCells] at hs ⊢
  case slice a l cc =>
    cases a with
    | none => simp at hs ⊢; exact hs
    | some a =>
      have key : ∀ (n i : Nat) (acc : Array Value) (c : Array Value), (loadCellsFrom a i n acc).run P w = .ok c w → (loadCellsFrom a i n acc).run P w.drew = .ok c w.drew := by
        intro n
        induction n with
        | zero => intro i acc c h; simp only [loadCellsFrom, Sem.run_pure] at h ⊢; cases h; rfl
        | succ n ih =>
          intro i acc c h
          simp only [loadCellsFrom, Sem.run_bind, run_load] at h ⊢
          have hc : w.drew.cell? (a.add i) = w.cell? (a.add i) := rfl
          rw [hc]
          cases hcell : w.cell? (a.add i) with
          | some v => simp only [hcell, Result.andThen_ok] at h ⊢; exact ih _ _ _ h
          | none =>
            simp only [hcell] at h ⊢
            have hfar : w.drew.farLoad P (a.add i) (Mode.plain == .atomic) = w.farLoad P (a.add i) (Mode.plain == .atomic) := rfl
            rw [hfar]
            cases hfl : w.farLoad P (a.add i) (Mode.plain == .atomic) with
            | ok r => simp only [hfl, Result.andThen_ok] at h ⊢; exact ih _ _ _ h
            | error e => simp [hfl] at h
      exact key _ _ _ _ hs
  case string s => simp at hs ⊢; exact hs
  all_goals (simp [stuck] at hs)

theorem Keep.of_eq {φ φ' : Phi} {h h' h'' : H} {w w' : World} (k : Keep φ h w φ' h' w') (e : h' = h'') : Keep φ h w φ' h'' w' := e ▸ k

theorem run_app {t u ty : TypeId} {e : TypeId} {k : LK} (T : AppT P t u e k) (R : Rel P φ h w) {x y v : V} {h' : H} {vx vy : Value} (hap : app e k x y h = some (v, h')) (rx : relV P φ x vx) (ry : relV P φ y vy)
    (hf : Fresh φ h.next h'.next) : ∃ z w' φ', (Builtin.append_ #[t, u] ty #[vx, vy]).run P w = .ok z w' ∧ Rel P φ' h' w' ∧ Keep φ h w φ' h' w' ∧ relV P φ' v z := by
  unfold app at hap
  cases hy : elems e y h with
  | none => simp [hy] at hap
  | some ys =>
    simp only [hy] at hap
    obtain ⟨by_, cy', cy, rfl, rcy, fy, _⟩ := elems_rel R hy ry
    have hcy := relA_length rcy
    split at hap
    · cases hap
    · rename_i hok
      have hoky : allOk k ys = true := by simpa using hok
      have hpos := kind_pos T.hk
      split at hap
      · -- nil
        obtain rfl := relV_L0.1 rx
        split at hap
        · rename_i hemp
          have : ys = [] := by simpa using hemp
          subst this
          cases hap
          have hc0 : cy = [] := List.eq_nil_of_length_eq_zero (by simpa using hcy)
          subst hc0
          refine ⟨_, w, φ, ?_, R, Keep.refl _ _ _, relV_L0.2 rfl⟩
          rw [run_append_room T (by simp)]
          simp only [fy, Result.andThen_ok, Sem.run_pure]
          rfl
        · rename_i hemp
          have hne : 0 < ys.length := by
            cases ys with
            | nil => simp at hemp
            | cons a b => simp
          split at hap
          · cases hap
          · rename_i hlim
            cases hap
            obtain ⟨nc, z, hnc, _, hz, hrun⟩ := run_append_grow (w := w) (ty := ty) T (base := none) (n := 0) (c := 0) (m := ys.length) (b' := by_) (c' := cy') (by omega) (by omega)
            have hfr : φ h.next = none := hf h.next (Nat.le_refl _) (by simp)
            have hsz : (cy.toArray ++ Builtin.zeroCells z (nc - (0 + ys.length))).size = nc * P.cellsOf e := by
              simp only [Array.size_append, List.size_toArray, zeroCells_size, hz, hcy]
              rw [← Nat.add_mul]; congr 1; omega
            have hfirst : (Builtin.firstCells (P.cellsOf e) 0 (.slice none 0 0)).run P w.drew = .ok #[] w.drew := rfl
            rw [hfirst] at hrun
            simp only [Result.andThen_ok, firstCells_heap fy] at hrun
            obtain ⟨R', K'⟩ := R.drew.new_c (bk := .op) hfr (by simp) (v := .Ar e ys) (cs := cy) (by simpa only [relC] using rcy) e (c := #[] ++ cy.toArray ++ Builtin.zeroCells z (nc - (0 + ys.length))) (by
              intro i x hx
              have hlt : i < cy.length := (List.getElem?_eq_some_iff.1 hx).1
              rw [Array.getElem?_append_left (by simpa using hlt)]
              simpa using hx)
            refine ⟨_, _, _, hrun, R', (Keep.drew φ h w).trans K', ?_⟩
            refine relV_Lmk ⟨_, 0, nc, Phi.add_self _ _ _, by first | rfl | rw [Nat.zero_add], Nat.le_refl _, .inl (by simp [offs]), ?_⟩
            simp only [if_true]
            refine ⟨by omega, ?_⟩
            have : (#[] ++ cy.toArray ++ Builtin.zeroCells z (nc - (0 + ys.length))).size = nc * P.cellsOf e := by simpa using hsz
            simp only [this]; omega
      · rename_i b p t' s n c op
        split at hap
        · cases hap
        · rename_i ht
          have ht' : t' = e := by simpa using ht
          subst ht'
          obtain ⟨a0, c', rfl⟩ := relV_Lany rx
          have hnn : n ≤ c := by
            rcases relV_L.1 rx with ⟨L, off, c2, hL, he2, hnc, hoff, hcap⟩ | ⟨h1, h2, _⟩
            · exact hnc
            · omega
          have hcc : c ≤ c' := by
            rcases relV_L.1 rx with ⟨L, off, c2, hL, he2, hnc, hoff, hcap⟩ | ⟨_, h2, _⟩
            · cases he2
              split at hcap
              · exact hcap.1
              · omega
            · omega
          split at hap
          · rename_i hemp
            have : ys = [] := by simpa using hemp
            subst this
            cases hap
            have hc0 : cy = [] := List.eq_nil_of_length_eq_zero (by simpa using hcy)
            subst hc0
            refine ⟨_, w, φ, ?_, R, Keep.refl _ _ _, rx⟩
            rw [run_append_room T (by simp; omega)]
            simp only [fy, Result.andThen_ok]
            rfl
          · rename_i hemp
            have hne : 0 < ys.length := by
              cases ys with
              | nil => simp at hemp
              | cons a b => simp
            split at hap
            · -- within the room that is seen
              rename_i hroom
              split at hap
              · rename_i bk vb hb
                split at hap
                · cases hap
                · rename_i hro
                  split at hap
                  · rename_i t2 vs hv
                    split at hap
                    · rename_i hcond
                      obtain ⟨rfl, hle⟩ := hcond
                      split at hap
                      · rename_i v' hp
                        cases hap
                        obtain ⟨L, off, c2, hL, he2, hnc, hoff, hcap⟩ | ⟨h1, h2, _⟩ := relV_L.1 rx
                        case inr => omega
                        cases he2
                        have hoff' : off = L.base + offs P p + s * P.cellsOf t2 := by
                          rcases hoff with h1 | ⟨h1, h2⟩
                          · exact h1
                          · omega
                        obtain ⟨w', hst, R', K'⟩ := run_lay R hb hro hL hv rcy (j := s + n) (by omega) hp
                        refine ⟨_, w', φ, ?_, R', K', relV_Lmk ⟨L, off, c', hL, rfl, hroom, .inl hoff', hcap⟩⟩
                        rw [run_append_room T (by omega)]
                        simp only [fy, Result.andThen_ok, add_eq]
                        have e1 : off + n * P.cellsOf t2 = L.base + offs P p + (s + n) * P.cellsOf t2 := by rw [hoff', Nat.add_mul]; omega
                        rw [e1, hst]
                        rfl
                      · cases hap
                    · cases hap
                  · cases hap
              · cases hap
            · -- beyond it
              rename_i hroom
              cases hx : elems t' (.L b p t' s n c op) h with
              | none => simp [hx] at hap
              | some xs =>
                simp only [hx] at hap
                obtain ⟨bx, cx', cx, hbx, rcx, fx, gx⟩ := elems_rel R hx rx
                have hxl : xs.length = n := by cases hbx; rfl
                subst hxl
                have hcx := relA_length rcx
                split at hap
                · cases hap
                · rename_i hcond
                  have hlim : xs.length + ys.length ≤ 16777216 := by
                    have : ¬ (16777216 < xs.length + ys.length) := fun hh => hcond (.inr hh)
                    omega
                  -- the state behind: by whether the old row stays
                  have fin : ∀ h1 : H, h1.next = h.next → Rel P φ h1 w → Keep φ h w φ h1 w → c' < xs.length + ys.length → v = .L h.next [] t' 0 (xs.length + ys.length) (xs.length + ys.length) true → h' = h1.new (.c .op (.Ar t' (xs ++ ys))) →
                      ∃ z w' φ', (Builtin.append_ #[t, u] ty #[.slice (some a0) xs.length c', .slice by_ ys.length cy']).run P w = .ok z w' ∧ Rel P φ' h' w' ∧ Keep φ h w φ' h' w' ∧ relV P φ' v z := by
                    intro h1 hn1 R1 K1 hlt hv hh
                    subst hv; subst hh
                    obtain ⟨nc, z, hnc', _, hz, hrun⟩ := run_append_grow (w := w) (ty := ty) T (base := some a0) (n := xs.length) (c := c') (m := ys.length) (b' := by_) (c' := cy') hlt hlim
                    have hfr : φ h1.next = none := by rw [hn1]; exact hf h.next (Nat.le_refl _) (by simp [hn1])
                    have fx' : (Builtin.firstCells (P.cellsOf t') xs.length (.slice (some a0) xs.length c')).run P w = .ok cx.toArray w := by cases hbx; exact fx
                    simp only [firstCells_heap fx', Result.andThen_ok, firstCells_heap fy] at hrun
                    have hsz : (cx.toArray ++ cy.toArray ++ Builtin.zeroCells z (nc - (xs.length + ys.length))).size = nc * P.cellsOf t' := by
                      simp only [Array.size_append, List.size_toArray, zeroCells_size, hz, hcy, hcx]
                      rw [← Nat.add_mul, ← Nat.add_mul]; congr 1; omega
                    obtain ⟨R', K'⟩ := R1.drew.new_c (bk := .op) hfr (by simp) (v := .Ar t' (xs ++ ys)) (cs := cx ++ cy) (by simpa only [relC] using relA_append rcx rcy) t' (c := cx.toArray ++ cy.toArray ++ Builtin.zeroCells z (nc - (xs.length + ys.length))) (by
                      intro i x hx
                      have hlt : i < (cx ++ cy).length := (List.getElem?_eq_some_iff.1 hx).1
                      rw [Array.getElem?_append_left (by simpa using hlt)]
                      simpa using hx)
                    rw [hn1] at R' K'
                    refine ⟨_, _, _, hrun, R', (K1.trans (Keep.drew φ h1 w)).trans K', ?_⟩
                    refine relV_Lmk ⟨_, 0, nc, Phi.add_self _ _ _, by first | rfl | rw [Nat.zero_add], Nat.le_refl _, .inl (by simp [offs]), ?_⟩
                    simp only [if_true]
                    refine ⟨by omega, ?_⟩
                    simp only [hsz]; omega
                  by_cases hop : op = true
                  · subst hop
                    obtain ⟨L, off, c2, hL, he2, hnc, hoff, hcap⟩ | ⟨_, _, h3, _⟩ := relV_L.1 rx
                    case inr => cases h3
                    cases he2
                    simp only [if_true] at hap hcap
                    cases hb : h.get b with
                    | none => simp [hb] at hap
                    | some blk =>
                      cases blk with
                      | m es => simp [hb] at hap
                      | c bk vb =>
                        cases bk <;> simp only [hb] at hap <;> try (cases hap; done)
                        by_cases hpn : p = []
                        · subst hpn
                          simp only [if_true, Option.some.injEq, Prod.mk.injEq] at hap
                          obtain ⟨rfl, rfl⟩ := hap
                          by_cases hin : xs.length + ys.length ≤ c'
                          · obtain ⟨L', hL', cc, e', fr, cs, q1, q2, q3, q4, q5⟩ := R.ok b _ hb
                            rw [hL] at hL'; cases hL'
                            obtain rfl := q3 (by simp)
                            have hroom2 := hcap.2
                            have hle2 : (xs.length + ys.length) * P.cellsOf t' ≤ c' * P.cellsOf t' := Nat.mul_le_mul_right _ hin
                            rw [Nat.add_mul] at hle2
                            have hst := run_storeCells_at (P := P) L.cb (off + xs.length * P.cellsOf t') e' cy 0 cc w q1 (by omega) (relA_one rcy)
                            have hfr : φ h.next = none := hf h.next (Nat.le_refl _) (by simp)
                            obtain ⟨R', K'⟩ := R.reuse hfr hb (by simp) hL q1 (v' := .Ar t' (xs ++ ys)) (cs' := cx ++ cy) (by simpa only [relC] using relA_append rcx rcy)
                              (c' := (cc.toList.take (off + xs.length * P.cellsOf t' + 0) ++ cy ++ cc.toList.drop (off + xs.length * P.cellsOf t' + 0 + cy.length)).toArray) (by simp; omega) (off := off) (by
                              intro i x hx
                              simp only [Nat.add_zero, List.getElem?_toArray]
                              rw [List.getElem?_append] at hx
                              by_cases hi : i < cx.length
                              · rw [if_pos hi] at hx
                                have hcell := gx _ (by cases hbx; rfl) i x hx
                                rw [add_eq] at hcell
                                simp only [World.cell?, q1] at hcell
                                rw [List.append_assoc, List.getElem?_append_left (by simp; omega), List.getElem?_take, if_pos (by omega)]
                                simpa using hcell
                              · rw [if_neg hi] at hx
                                have hil : i - cx.length < cy.length := (List.getElem?_eq_some_iff.1 hx).1
                                rw [List.append_assoc, List.getElem?_append_right (by simp; omega), List.getElem?_append_left (by simp; omega)]
                                rw [← hx]; congr 1
                                simp; omega)
                            refine ⟨_, _, _, ?_, R', K', relV_Lmk ⟨_, off, c', Phi.add_self _ _ _, rfl, Nat.le_refl _, .inl (by simp [offs]), ?_⟩⟩
                            · rw [run_append_room T hin]
                              simp only [fy, Result.andThen_ok, add_eq]
                              rw [hst]
                              rfl
                            · simp only [if_true]
                              exact ⟨hin, hroom2⟩
                          · exact fin (h.put b none) rfl (R.kill b).1 (R.kill b).2 (by omega) rfl rfl
                        · rw [if_neg hpn] at hap; cases hap
                  · have hop' : op = false := by simpa using hop
                    subst hop'
                    simp only [Bool.false_eq_true, if_false, Option.some.injEq, Prod.mk.injEq] at hap
                    obtain ⟨rfl, rfl⟩ := hap
                    refine fin h rfl R (Keep.refl _ _ _) ?_ rfl rfl
                    rcases relV_L.1 rx with ⟨L, off, c2, hL, he2, hnc, hoff, hcap⟩ | ⟨h1, h2, _, a, he2⟩
                    · cases he2
                      simp only [Bool.false_eq_true, if_false] at hcap
                      omega
                    · simp only [Value.slice.injEq] at he2
                      omega
      · cases hap

end
end Go.Proofs.YtnnebakkcdclmaaGreat.AM
