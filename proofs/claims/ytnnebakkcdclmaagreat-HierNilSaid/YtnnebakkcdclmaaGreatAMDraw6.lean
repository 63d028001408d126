/-
  Proved here, for every program: a part of the soundness of an abstract machine against the model: lemmas. Conditions: none.
-/
import Derived.Test.YtnnebakkcdclmaaGreatAMDraw5
namespace Go.Proofs.YtnnebakkcdclmaaGreat.AM

section
variable {P : Program} {call : CallT} {nt : Nat} {ops : Array Oper} {pl : List Nat} {Es : Nat → Env} {HS HH : Nat → H} {vs : Nat → V}
variable {φ0 : Phi} {w0 : World} {c q : Nat} {l : Nat → Prop} {φ : Phi} {a : Act} {w : World}

theorem Stg.notIn (C : Ctx P call nt ops pl Es HS HH vs) (S : Stg P nt ops pl Es HS HH vs φ0 (HH 0) w0 c q l φ a w) {i : Nat} {o : Oper} (hi : ops.toList[i]? = some o) (hl : ¬ l i) (_hc : cls o.op ≤ 2) : cls o.op = 2 → q ≤ pl.idxOf i := by
  intro h2
  rcases S.qs with h | ⟨e, oe, he, hoe, h3, hq0⟩
  · omega
  · by_cases hlt : q ≤ pl.idxOf i
    · exact hlt
    · have hle : l e := S.eff (q - 1) e oe (by have := S.qc; omega) he hoe h3
      have hpe := C.at_pos he
      have hne : pl.idxOf i ≠ q - 1 := by
        intro h
        have := C.pos_inj hi hoe (h.trans hpe.symm)
        subst this; exact hl hle
      have hb := C.hd.late i e o oe hi hoe h2 h3 (by omega)
      exact absurd (S.dc e i oe hle hoe (List.getElem?_eq_some_iff.1 hi).1 hb) hl

/-- A step that is no act. -/
theorem Stg.next (C : Ctx P call nt ops pl Es HS HH vs) (S : Stg P nt ops pl Es HS HH vs φ0 (HH 0) w0 c q l φ a w) {i : Nat} {o : Oper} (hi : ops.toList[i]? = some o) (hl : ¬ l i)
    (hr : ∀ j, j < ops.toList.length → ((anc ops.toList).getD i 0).testBit j = true → l j) (hc : cls o.op ≠ 3) {φ' : Phi} {w' : World} {z : Value} (hle : φ.le φ') (hz : relV P φ' (vs (pl.idxOf i)) z)
    (I : Inv P φ0 (HH 0) w0 (HH pl.length).next φ' (BB P ops pl Es HS HH c q (addL l i)) w')
    (hf : ∀ b, (HS c).next ≤ b → b < (HH pl.length).next → (∀ j oj, addL l i j → q ≤ pl.idxOf j → ops.toList[j]? = some oj → cls oj.op = 2 → wants ops.toList (Es (pl.idxOf j)) oj = true → (HH (pl.idxOf j)).next ≠ b) → φ' b = none) :
    Stg P nt ops pl Es HS HH vs φ0 (HH 0) w0 c q (addL l i) φ' (a.put o.dst z) w' where
  dc := by
    rintro i' j oi (rfl | hli) hoi hj hb
    · exact .inr (hr j hj hb)
    · exact .inr (S.dc i' j oi hli hoi hj hb)
  cn := S.cn
  qc := S.qc
  hq := S.hq
  lt := S.lt
  qs := S.qs
  nq := S.nq
  eff := fun p i' o' h1 h2 h3 h4 => .inr (S.eff p i' o' h1 h2 h3 h4)
  nxt := by
    intro h
    obtain ⟨e, oe, h1, h2, h3, h4⟩ := S.nxt h
    refine ⟨e, oe, h1, h2, h3, ?_⟩
    rintro (rfl | h)
    · rw [hi] at h2; cases h2; exact hc h3
    · exact h4 h
  er := by
    rw [C.cur_add hi hl]
    exact (S.er.mono hle).put hz
  inv := I
  free := hf

/-- An act. -/
theorem Stg.act (C : Ctx P call nt ops pl Es HS HH vs) (S : Stg P nt ops pl Es HS HH vs φ0 (HH 0) w0 c q l φ a w) {i : Nat} {o : Oper} (hi : ops.toList[i]? = some o) (hl : ¬ l i)
    (hr : ∀ j, j < ops.toList.length → ((anc ops.toList).getD i 0).testBit j = true → l j) (hc : cls o.op = 3) : pl.idxOf i = c ∧ Rel P φ (HH c) w ∧ Fresh φ (HH c).next (HH (c + 1)).next ∧
    ∀ φ' w' z, Rel P φ' (HH (c + 1)) w' → Keep φ (HH c) w φ' (HH (c + 1)) w' → relV P φ' (vs c) z → ∃ c' q', Stg P nt ops pl Es HS HH vs φ0 (HH 0) w0 c' q' (addL l i) φ' (a.put o.dst z) w' := by
  have hin : i < ops.toList.length := (List.getElem?_eq_some_iff.1 hi).1
  have hpl := C.pos_lt hi
  have hpos : pl.idxOf i = c := by
    rcases Nat.lt_trichotomy (pl.idxOf i) c with h | h | h
    · exact absurd (S.eff _ i o h (C.get hi) hi hc) hl
    · exact h
    · obtain ⟨e, oe, h1, h2, h3, h4⟩ := S.nxt (by omega)
      have hpe := C.at_pos h1
      have hne : i ≠ e := by intro h; rw [← h] at hpe; omega
      have hel : e < ops.toList.length := (List.getElem?_eq_some_iff.1 h2).1
      rcases C.hd.acts i e o oe hi h2 hc h3 hne with hb | hb
      · have := (C.hd.before i e hel hin hb).2; omega
      · exact absurd (hr e hel hb) h4
  have hcn : c < pl.length := by omega
  have hs : ∀ b x, (HH c).get b = some x → BB P ops pl Es HS HH c q l b x := by
    intro b x hx
    rcases C.heap S.qc S.cn S.nq b x hx with h | ⟨j, oj, m, k1, k2, k3, k4, k5, k6, k7⟩
    · rw [S.hq] at h; exact .inl h
    · refine .inr ⟨j, oj, m, ?_, k1, k3, k4, k5, k6, k7⟩
      exact hr j (List.getElem?_eq_some_iff.1 k3).1 (C.hd.late j i oj o k3 hi k4 hc (by omega))
  have hlt : ∀ b x, (HH c).get b = some x → b < (HH c).next := by
    intro b x hx
    rcases C.heap S.qc S.cn S.nq b x hx with h | ⟨j, oj, m, k1, k2, k3, k4, k5, k6, k7⟩
    · rw [S.hq] at h
      have h1 := S.lt b x h
      have h2 := C.mono S.qc S.cn
      rw [S.hq] at h2; omega
    · rw [k6]; exact C.id_lt k3 k4 k5 S.cn k2
  have hR := S.inv.rel hs hlt
  have hm1 : (HH (c + 1)).next ≤ (HH pl.length).next := C.mono (by omega) (Nat.le_refl _)
  have hm2 : (HS c).next ≤ (HH c).next := by rw [← S.hq]; exact C.mono S.qc S.cn
  have hm3 : (HH c).next ≤ (HH (c + 1)).next := C.next1 hcn
  have far : ∀ j oj, ops.toList[j]? = some oj → cls oj.op = 2 → wants ops.toList (Es (pl.idxOf j)) oj = true → (HH c).next ≤ (HH (pl.idxOf j)).next → c + 1 ≤ pl.idxOf j := by
    intro j oj hj hcj hwj hge
    rcases Nat.lt_trichotomy (pl.idxOf j) c with h | h | h
    · have := C.id_lt hj hcj hwj S.cn h; omega
    · have := C.pos_inj hj hi (h.trans hpos.symm)
      subst this
      rw [hi] at hj; cases hj; omega
    · exact h
  refine ⟨hpos, hR, ?_, ?_⟩
  · intro b hb1 hb2
    refine S.free b (by omega) (by omega) fun j oj hlj hqj hj hcj hwj hid => ?_
    have h1 := far j oj hj hcj hwj (by omega)
    have := C.mono (p := c + 1) (q := pl.idxOf j) h1 (Nat.le_of_lt (C.pos_lt hj))
    omega
  · intro φ' w' z R' K hz
    have hst := (C.step hi).2
    have hHS : HS (c + 1) = HH (c + 1) := by
      rw [hpos] at hst
      rcases hst with ⟨h, _⟩ | ⟨h, _⟩ | ⟨_, _, h⟩
      · omega
      · omega
      · exact h
    obtain ⟨c', n1, n2, n3, n4, n5⟩ := C.nextE (pl.length - (c + 1)) (c := c + 1) (by omega) rfl
    have hHc : HS c' = HH (c + 1) := n3.trans hHS
    refine ⟨c', c + 1, ?_⟩
    refine ⟨?_, n2, n1, hHc.symm, ?_, .inr ⟨i, o, by simpa [hpos] using C.get hi, hi, hc, by omega⟩, n4, ?_, ?_, ?_, ?_, ?_⟩
    · rintro i' j oi (rfl | hli) hoi hj hb
      · exact .inr (hr j hj hb)
      · exact .inr (S.dc i' j oi hli hoi hj hb)
    · rw [hHc]; exact R'.lt
    · intro p i' o' h1 h2 h3 h4
      rcases Nat.lt_trichotomy p c with h | h | h
      · exact .inr (S.eff p i' o' h h2 h3 h4)
      · subst h
        exact .inl (C.pos_inj h3 hi ((C.at_pos h2).trans hpos.symm))
      · exact absurd h4 (n4 p i' o' h h1 h2 h3)
    · intro h
      obtain ⟨e, oe, h1, h2, h3⟩ := n5 h
      refine ⟨e, oe, h1, h2, h3, ?_⟩
      have hpe := C.at_pos h1
      have hne : i ≠ e := by intro h; rw [← h] at hpe; omega
      have hel : e < ops.toList.length := (List.getElem?_eq_some_iff.1 h2).1
      rintro (h | h)
      · exact hne h.symm
      · rcases C.hd.acts i e o oe hi h2 hc h3 hne with hb | hb
        · exact hl (S.dc e i oe h h2 hin hb)
        · have := (C.hd.before e i hin hel hb).2; omega
    · rw [C.cur_add hi hl, hpos]
      exact (S.er.mono K.ext).put hz
    · refine (S.inv.effect (h := HH c) (h' := HH (c + 1)) hs hlt R' K (C.mono (Nat.zero_le _) S.cn) hm1
        (Bp := fun b x => ∃ j oj m, addL l i j ∧ c + 1 ≤ pl.idxOf j ∧ ops.toList[j]? = some oj ∧ cls oj.op = 2 ∧ wants ops.toList (Es (pl.idxOf j)) oj = true ∧ b = (HH (pl.idxOf j)).next ∧ evA P (Es (pl.idxOf j)) oj = some (x, m)) ?_).sub ?_
      · rintro b x ⟨j, oj, m, k1, k2, k3, k4, k5, k6, k7⟩
        refine ⟨.inr ⟨j, oj, m, ?_, ?_, k3, k4, k5, k6, k7⟩, ?_⟩
        · rcases k1 with rfl | k1
          · omega
          · exact k1
        · have := S.qc; omega
        · rw [k6]; exact C.mono k2 (Nat.le_of_lt (C.pos_lt k3))
      · rintro b x (h | h)
        · rw [hHc] at h; exact .inl h
        · exact .inr h
    · intro b h1 h2 h3
      rw [hHc] at h1
      rw [K.out b (.inr h1)]
      refine S.free b (by omega) h2 fun j oj hlj hqj hj hcj hwj hid => ?_
      have hfar := far j oj hj hcj hwj (by omega)
      exact h3 j oj (.inr hlj) hfar hj hcj hwj hid

/-- All is done. -/
theorem Stg.done (C : Ctx P call nt ops pl Es HS HH vs) (S : Stg P nt ops pl Es HS HH vs φ0 (HH 0) w0 c q l φ a w) (hall : ∀ i, i < ops.toList.length → l i) :
    ERel P φ (Es pl.length) a nt ∧ Rel P φ (HH pl.length) w ∧ Keep φ0 (HH 0) w0 φ (HH pl.length) w := by
  have hc : c = pl.length := by
    by_cases h : c < pl.length
    · obtain ⟨e, oe, h1, h2, h3, h4⟩ := S.nxt h
      exact absurd (hall e (List.getElem?_eq_some_iff.1 h2).1) h4
    · have := S.cn; omega
  subst hc
  have hs : ∀ b x, (HH pl.length).get b = some x → BB P ops pl Es HS HH pl.length q l b x := by
    intro b x hx
    rcases C.heap S.qc S.cn S.nq b x hx with h | ⟨j, oj, m, k1, k2, k3, k4, k5, k6, k7⟩
    · rw [S.hq] at h; exact .inl h
    · exact .inr ⟨j, oj, m, hall j (List.getElem?_eq_some_iff.1 k3).1, k1, k3, k4, k5, k6, k7⟩
  have hlt : ∀ b x, (HH pl.length).get b = some x → b < (HH pl.length).next := by
    intro b x hx
    rcases C.heap S.qc S.cn S.nq b x hx with h | ⟨j, oj, m, k1, k2, k3, k4, k5, k6, k7⟩
    · rw [S.hq] at h
      have h1 := S.lt b x h
      have h2 := C.mono S.qc S.cn
      rw [S.hq] at h2; omega
    · rw [k6]; exact C.id_lt k3 k4 k5 S.cn k2
  have hcur : cur ops pl (Es 0) vs l = Es pl.length := by
    funext t
    by_cases hx : ∃ (j : Nat) (oj : Oper), ops.toList[j]? = some oj ∧ oj.dst = some t
    · obtain ⟨j, oj, h2, h3⟩ := hx
      rw [C.cur_in (hall j (List.getElem?_eq_some_iff.1 h2).1) h2 h3, C.envV h2 h3 (Nat.le_refl _) (C.pos_lt h2)]
    · rw [Ctx.cur_out fun j oj h1 h2 h3 => hx ⟨j, oj, h2, h3⟩]
      exact (C.env0 (Nat.le_refl _) fun j oj h2 h3 => absurd ⟨j, oj, h2, h3⟩ hx).symm
  exact ⟨hcur ▸ S.er, S.inv.rel hs hlt, S.inv.keep hs (C.mono (Nat.zero_le _) (Nat.le_refl _))⟩

end
end Go.Proofs.YtnnebakkcdclmaaGreat.AM
