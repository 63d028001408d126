/-
  Proved here, for every program: a part of the soundness of an abstract machine against the model: lemmas. Conditions: none.
-/
import Derived.Test.YtnnebakkcdclmaaGreatAMDraw2
namespace Go.Proofs.YtnnebakkcdclmaaGreat.AM

/-- A region's run, and where it began. -/
structure Ctx (P : Program) (call : CallT) (nt : Nat) (ops : Array Oper) (pl : List Nat) (Es : Nat → Env) (HS HH : Nat → H) (vs : Nat → V) : Prop where
  hO : CallOk P call
  hM : MonoCall call
  hS : CallSound P call
  hok : opsOk nt ops.toList = true
  hd : Plan nt ops.toList pl
  sq : Seqs P call nt ops.toList (anc ops.toList) pl Es HS HH vs
  h0 : HS 0 = HH 0

section
variable {P : Program} {call : CallT} {nt : Nat} {ops : Array Oper} {pl : List Nat} {Es : Nat → Env} {HS HH : Nat → H} {vs : Nat → V}

theorem Ctx.get (C : Ctx P call nt ops pl Es HS HH vs) {i : Nat} {o : Oper} (hi : ops.toList[i]? = some o) : pl[pl.idxOf i]? = some i :=
  idxOf_get (C.hd.all i (List.getElem?_eq_some_iff.1 hi).1)

theorem Ctx.op (C : Ctx P call nt ops pl Es HS HH vs) {p i : Nat} (hp : pl[p]? = some i) : ∃ o, ops.toList[i]? = some o ∧ pl.idxOf i = p := by
  have hm : i ∈ pl := List.mem_of_getElem? hp
  exact ⟨ops.toList[i]'(C.hd.lt i hm), List.getElem?_eq_getElem _, idxOf_of_get C.hd.nodup hp⟩

theorem Ctx.step (C : Ctx P call nt ops pl Es HS HH vs) {i : Nat} {o : Oper} (hi : ops.toList[i]? = some o) : Es (pl.idxOf i + 1) = (Es (pl.idxOf i)).upd nt o.dst (vs (pl.idxOf i)) ∧
    ((cls o.op ≤ 1 ∧ gV (wants ops.toList (Es (pl.idxOf i)) o) (fun _ => evV P (Es (pl.idxOf i)) (HS (pl.idxOf i)) o) = some (vs (pl.idxOf i)) ∧ HS (pl.idxOf i + 1) = HS (pl.idxOf i) ∧ HH (pl.idxOf i + 1) = HH (pl.idxOf i)) ∨
     (cls o.op = 2 ∧ gE (wants ops.toList (Es (pl.idxOf i)) o) (HH (pl.idxOf i)) (fun _ => mkB (HH (pl.idxOf i)) (evA P (Es (pl.idxOf i)) o)) = some (vs (pl.idxOf i), HH (pl.idxOf i + 1)) ∧ HS (pl.idxOf i + 1) = HS (pl.idxOf i)) ∨
     (cls o.op = 3 ∧ gE (wants ops.toList (Es (pl.idxOf i)) o) (HH (pl.idxOf i)) (fun _ => evE P call (Es (pl.idxOf i)) (HH (pl.idxOf i)) o) = some (vs (pl.idxOf i), HH (pl.idxOf i + 1)) ∧ HS (pl.idxOf i + 1) = HH (pl.idxOf i + 1))) := by
  obtain ⟨o', h1, h2, h3⟩ := C.sq.step _ i (C.get hi)
  rw [hi] at h1; cases h1
  exact ⟨h2, h3⟩

theorem Ctx.next1 (C : Ctx P call nt ops pl Es HS HH vs) {p : Nat} (hp : p < pl.length) : (HH p).next ≤ (HH (p + 1)).next := by
  obtain ⟨o, hi, hpos⟩ := C.op (List.getElem?_eq_getElem hp)
  have := (C.step hi).2
  rw [hpos] at this
  rcases this with ⟨_, _, _, h⟩ | ⟨_, h, _⟩ | ⟨_, h, _⟩
  · rw [h]; exact Nat.le_refl _
  · exact gE_next (fun _ _ => mkB_next) h
  · exact gE_next (fun _ _ => evE_next C.hM) h

theorem Ctx.mono (C : Ctx P call nt ops pl Es HS HH vs) {p : Nat} : ∀ {q : Nat}, p ≤ q → q ≤ pl.length → (HH p).next ≤ (HH q).next
  | 0, h, _ => by
    obtain rfl : p = 0 := by omega
    exact Nat.le_refl _
  | q + 1, h, hq => by
    by_cases e : p = q + 1
    · rw [e]; exact Nat.le_refl _
    · exact Nat.le_trans (C.mono (by omega) (by omega)) (C.next1 (by omega))

/-- Frames on the way. -/
theorem Ctx.env0 (C : Ctx P call nt ops pl Es HS HH vs) {t : Nat} : ∀ {p : Nat}, p ≤ pl.length → (∀ j o, ops.toList[j]? = some o → o.dst = some t → p ≤ pl.idxOf j) → Es p t = Es 0 t
  | 0, _, _ => rfl
  | p + 1, hp, hn => by
    obtain ⟨o, hi, hpos⟩ := C.op (List.getElem?_eq_getElem (show p < pl.length by omega))
    have hst := (C.step hi).1
    rw [hpos] at hst
    rw [hst]
    have ih : Es p t = Es 0 t := C.env0 (by omega) fun j o' hj hd => Nat.le_trans (Nat.le_succ _) (hn j o' hj hd)
    unfold Env.upd
    cases hd : o.dst with
    | none => exact ih
    | some d =>
      simp only
      split
      · by_cases e : t = d
        · subst e
          have := hn _ o hi hd
          omega
        · simp only [if_neg e]; exact ih
      · exact ih

theorem Ctx.envV (C : Ctx P call nt ops pl Es HS HH vs) {j : Nat} {o : Oper} (hj : ops.toList[j]? = some o) {t : Nat} (hd : o.dst = some t) : ∀ {p : Nat}, p ≤ pl.length → pl.idxOf j < p → Es p t = vs (pl.idxOf j)
  | 0, _, h => by omega
  | p + 1, hp, hlt => by
    obtain ⟨o', hi, hpos⟩ := C.op (List.getElem?_eq_getElem (show p < pl.length by omega))
    have hst := (C.step hi).1
    rw [hpos] at hst
    rw [hst]
    have htn : t < nt := (opsOk_dst C.hok (List.mem_of_getElem? hj)).2 t hd
    by_cases e : pl.idxOf j = p
    · have hji : pl[p] = j := by
        have := C.get hj
        rw [e, List.getElem?_eq_getElem (show p < pl.length by omega)] at this
        simpa using this
      rw [hji, hj] at hi; cases hi
      unfold Env.upd
      rw [hd]
      simp only [htn, if_true, e]
    · have ih := C.envV hj hd (p := p) (by omega) (by omega)
      unfold Env.upd
      cases hd' : o'.dst with
      | none => exact ih
      | some d =>
        simp only
        split
        · by_cases e' : t = d
          · subst e'
            have hne : j ≠ pl[p] := fun h => by rw [h] at e; exact e hpos
            exact absurd hd' (C.hd.dst j (pl[p]) o o' t hj hi hne hd).1
          · simp only [if_neg e']; exact ih
        · exact ih

open Classical in
/-- The frame, when these were done. -/
noncomputable def cur (ops : Array Oper) (pl : List Nat) (E0 : Env) (vs : Nat → V) (l : Nat → Prop) : Env := fun t =>
  if hx : ∃ j, l j ∧ (ops.toList[j]?).bind (·.dst) = some t then vs (pl.idxOf hx.choose) else E0 t

theorem Ctx.uniq (C : Ctx P call nt ops pl Es HS HH vs) {i j t : Nat} (hi : (ops.toList[i]?).bind (·.dst) = some t) (hj : (ops.toList[j]?).bind (·.dst) = some t) : i = j := by
  simp only [Option.bind_eq_some_iff] at hi hj
  obtain ⟨oi, hi, di⟩ := hi
  obtain ⟨oj, hj, dj⟩ := hj
  by_cases e : i = j
  · exact e
  · exact absurd dj (C.hd.dst i j oi oj t hi hj e di).1

theorem Ctx.cur_in (C : Ctx P call nt ops pl Es HS HH vs) {l : Nat → Prop} {j t : Nat} {o : Oper} (hl : l j) (hj : ops.toList[j]? = some o) (hd : o.dst = some t) : cur ops pl (Es 0) vs l t = vs (pl.idxOf j) := by
  have hx : ∃ j, l j ∧ (ops.toList[j]?).bind (·.dst) = some t := ⟨j, hl, by simp [hj, hd]⟩
  unfold cur
  rw [dif_pos hx]
  rw [C.uniq hx.choose_spec.2 (show (ops.toList[j]?).bind (·.dst) = some t by simp [hj, hd])]

theorem Ctx.cur_out {l : Nat → Prop} {t : Nat} (hn : ∀ j o, l j → ops.toList[j]? = some o → o.dst ≠ some t) : cur ops pl (Es 0) vs l t = Es 0 t := by
  unfold cur
  rw [dif_neg]
  rintro ⟨j, hl, hj⟩
  simp only [Option.bind_eq_some_iff] at hj
  obtain ⟨o, hj, hd⟩ := hj
  exact hn j o hl hj hd

def addL (l : Nat → Prop) (i : Nat) : Nat → Prop := fun j => j = i ∨ l j

theorem Ctx.cur_add (C : Ctx P call nt ops pl Es HS HH vs) {l : Nat → Prop} {i : Nat} {o : Oper} (hi : ops.toList[i]? = some o) (hl : ¬ l i) : cur ops pl (Es 0) vs (addL l i) = (cur ops pl (Es 0) vs l).upd nt o.dst (vs (pl.idxOf i)) := by
  funext t
  unfold Env.upd
  have noother : ∀ d, o.dst = some d → ∀ j oj, l j → ops.toList[j]? = some oj → oj.dst ≠ some d := by
    intro d hd j oj hlj hj hdj
    have : i = j := C.uniq (t := d) (by simp [hi, hd]) (by simp [hj, hdj])
    subst this; exact hl hlj
  have same : o.dst ≠ some t → cur ops pl (Es 0) vs (addL l i) t = cur ops pl (Es 0) vs l t := by
    intro hd
    by_cases hx : ∃ j oj, l j ∧ ops.toList[j]? = some oj ∧ oj.dst = some t
    · obtain ⟨j, oj, h1, h2, h3⟩ := hx
      rw [C.cur_in (l := addL l i) (.inr h1) h2 h3, C.cur_in h1 h2 h3]
    · rw [Ctx.cur_out (l := l) fun j oj h1 h2 h3 => hx ⟨j, oj, h1, h2, h3⟩]
      refine Ctx.cur_out fun j oj h1 h2 h3 => ?_
      rcases h1 with rfl | h1
      · rw [hi] at h2; cases h2; exact hd h3
      · exact hx ⟨j, oj, h1, h2, h3⟩
  cases hd : o.dst with
  | none => exact same (by rw [hd]; simp)
  | some d =>
    have hdn : d < nt := (opsOk_dst C.hok (List.mem_of_getElem? hi)).2 d hd
    simp only [hdn, if_true]
    by_cases e : t = d
    · subst e
      simp only [if_true]
      exact C.cur_in (l := addL l i) (.inl rfl) hi hd
    · simp only [if_neg e]
      exact same (by rw [hd]; intro h; cases h; exact e rfl)

/-- What an operation that is ready sees. -/
theorem Ctx.sees (C : Ctx P call nt ops pl Es HS HH vs) {l : Nat → Prop} (hdc : ∀ i j oi, l i → ops.toList[i]? = some oi → j < ops.toList.length → ((anc ops.toList).getD i 0).testBit j = true → l j) {i : Nat} {o : Oper} (hi : ops.toList[i]? = some o) (hl : ¬ l i)
    (hr : ∀ j, j < ops.toList.length → ((anc ops.toList).getD i 0).testBit j = true → l j) : ∀ t ∈ looks ops.toList o, cur ops pl (Es 0) vs l t = Es (pl.idxOf i) t := by
  intro t ht
  have hil : i < ops.toList.length := (List.getElem?_eq_some_iff.1 hi).1
  have hpl : pl.idxOf i ≤ pl.length := Nat.le_of_lt (List.idxOf_lt_length_of_mem (C.hd.all i hil))
  by_cases hx : ∃ j oj, l j ∧ ops.toList[j]? = some oj ∧ oj.dst = some t
  · obtain ⟨j, oj, h1, h2, h3⟩ := hx
    have hne : j ≠ i := fun e => hl (e ▸ h1)
    rw [C.cur_in h1 h2 h3]
    have hjl : j < ops.toList.length := (List.getElem?_eq_some_iff.1 h2).1
    rcases (C.hd.dst j i oj o t h2 hi hne h3).2.2 ht with hb | hb
    · exact (C.envV h2 h3 hpl (C.hd.before j i hil hjl hb).2).symm
    · exact absurd (hdc j i oj h1 h2 hil hb) hl
  · rw [Ctx.cur_out fun j oj h1 h2 h3 => hx ⟨j, oj, h1, h2, h3⟩]
    refine (C.env0 hpl fun j oj h2 h3 => ?_).symm
    by_cases hne : j = i
    · subst hne; exact Nat.le_refl _
    · have hjl : j < ops.toList.length := (List.getElem?_eq_some_iff.1 h2).1
      rcases (C.hd.dst j i oj o t h2 hi hne h3).2.2 ht with hb | hb
      · exact absurd ⟨j, oj, hr j hjl hb, h2, h3⟩ hx
      · exact Nat.le_of_lt (C.hd.before i j hjl hil hb).2

/-- Where a stage began. -/
theorem Ctx.stage (C : Ctx P call nt ops pl Es HS HH vs) : ∀ {c : Nat}, c ≤ pl.length → ∃ q, q ≤ c ∧ HH q = HS c ∧ (q = 0 ∨ ∃ i o, pl[q - 1]? = some i ∧ ops.toList[i]? = some o ∧ cls o.op = 3 ∧ 0 < q) ∧
      ∀ p i o, q ≤ p → p < c → pl[p]? = some i → ops.toList[i]? = some o → cls o.op ≠ 3
  | 0, _ => ⟨0, Nat.le_refl _, C.h0.symm, .inl rfl, fun p i o h1 h2 => by omega⟩
  | c + 1, hc => by
    obtain ⟨q, h1, h2, h3, h4⟩ := C.stage (c := c) (by omega)
    obtain ⟨o, hi, hpos⟩ := C.op (List.getElem?_eq_getElem (show c < pl.length by omega))
    have hst := (C.step hi).2
    rw [hpos] at hst
    rcases hst with ⟨k1, _, k3, _⟩ | ⟨k1, _, k3⟩ | ⟨k1, _, k3⟩
    · refine ⟨q, by omega, by rw [k3]; exact h2, h3, fun p i' o' g1 g2 g3 g4 => ?_⟩
      by_cases e : p = c
      · subst e
        rw [List.getElem?_eq_getElem (show p < pl.length by omega)] at g3; cases g3
        rw [hi] at g4; cases g4; omega
      · exact h4 p i' o' g1 (by omega) g3 g4
    · refine ⟨q, by omega, by rw [k3]; exact h2, h3, fun p i' o' g1 g2 g3 g4 => ?_⟩
      by_cases e : p = c
      · subst e
        rw [List.getElem?_eq_getElem (show p < pl.length by omega)] at g3; cases g3
        rw [hi] at g4; cases g4; omega
      · exact h4 p i' o' g1 (by omega) g3 g4
    · exact ⟨c + 1, Nat.le_refl _, k3.symm, .inr ⟨_, o, List.getElem?_eq_getElem (show c < pl.length by omega), hi, k1, by omega⟩, fun p i' o' g1 g2 => by omega⟩

/-- The next act. -/
theorem Ctx.nextE (C : Ctx P call nt ops pl Es HS HH vs) : ∀ (m : Nat) {c : Nat}, c ≤ pl.length → pl.length - c = m → ∃ q, c ≤ q ∧ q ≤ pl.length ∧ HS q = HS c ∧ (∀ p i o, c ≤ p → p < q → pl[p]? = some i → ops.toList[i]? = some o → cls o.op ≠ 3) ∧
      (q < pl.length → ∃ i o, pl[q]? = some i ∧ ops.toList[i]? = some o ∧ cls o.op = 3)
  | 0, c, hc, hm => ⟨c, Nat.le_refl _, hc, rfl, fun p i o h1 h2 => by omega, fun h => by omega⟩
  | m + 1, c, hc, hm => by
    obtain ⟨o, hi, hpos⟩ := C.op (List.getElem?_eq_getElem (show c < pl.length by omega))
    by_cases h3 : cls o.op = 3
    · exact ⟨c, Nat.le_refl _, hc, rfl, fun p i o h1 h2 => by omega, fun _ => ⟨_, o, List.getElem?_eq_getElem (show c < pl.length by omega), hi, h3⟩⟩
    · obtain ⟨q, k1, k2, k3, k4, k5⟩ := C.nextE m (c := c + 1) (by omega) (by omega)
      have hst := (C.step hi).2
      rw [hpos] at hst
      have hs : HS (c + 1) = HS c := by
        rcases hst with ⟨_, _, h, _⟩ | ⟨_, _, h⟩ | ⟨h, _⟩
        · exact h
        · exact h
        · exact absurd h h3
      refine ⟨q, by omega, k2, by rw [k3, hs], fun p i' o' g1 g2 g3 g4 => ?_, k5⟩
      by_cases e : p = c
      · subst e
        rw [List.getElem?_eq_getElem (show p < pl.length by omega)] at g3; cases g3
        rw [hi] at g4; cases g4; exact h3
      · exact k4 p i' o' (by omega) g2 g3 g4

/-- A read's value, at a later stage. -/
theorem Ctx.read (C : Ctx P call nt ops pl Es HS HH vs) {i : Nat} {o : Oper} (hi : ops.toList[i]? = some o) (hc1 : cls o.op ≤ 1) (hw : wants ops.toList (Es (pl.idxOf i)) o = true) {c : Nat} (hc : c ≤ pl.length) (hic : pl.idxOf i ≤ c)
    (hna : ∀ p e oe, pl.idxOf i < p → p < c → pl[p]? = some e → ops.toList[e]? = some oe → cls oe.op = 3 → ((anc ops.toList).getD e 0).testBit i = false) : evV P (Es (pl.idxOf i)) (HS c) o = some (vs (pl.idxOf i)) := by
  have hst := (C.step hi).2
  have h0 : evV P (Es (pl.idxOf i)) (HS (pl.idxOf i)) o = some (vs (pl.idxOf i)) := by
    rcases hst with ⟨_, h, _⟩ | ⟨h, _⟩ | ⟨h, _⟩
    · rw [hw] at h; exact h
    · omega
    · omega
  by_cases hz : cls o.op = 0
  · rw [evV_pure (h' := HS (pl.idxOf i)) hz]; exact h0
  · have h1 : cls o.op = 1 := by omega
    have key : ∀ c, pl.idxOf i ≤ c → c ≤ pl.length → (∀ p e oe, pl.idxOf i < p → p < c → pl[p]? = some e → ops.toList[e]? = some oe → cls oe.op = 3 → ((anc ops.toList).getD e 0).testBit i = false) → evV P (Es (pl.idxOf i)) (HS c) o = some (vs (pl.idxOf i)) := by
      intro c
      induction c with
      | zero => intro h _ _; have : pl.idxOf i = 0 := by omega
                rw [this] at h0 ⊢; exact h0
      | succ c ih =>
        intro hle hlen hna
        by_cases e : pl.idxOf i = c + 1
        · rw [← e]; exact h0
        · obtain ⟨oc, hci, hpos⟩ := C.op (List.getElem?_eq_getElem (show c < pl.length by omega))
          have hst := (C.step hci).2
          rw [hpos] at hst
          have ihc := ih (by omega) (by omega) fun p e oe g1 g2 => hna p e oe g1 (by omega)
          rcases hst with ⟨_, _, h, _⟩ | ⟨_, _, h⟩ | ⟨h3, _, h⟩
          · rw [h]; exact ihc
          · rw [h]; exact ihc
          · rw [h]
            have hlt : pl.idxOf i < c := by
              by_cases e2 : pl.idxOf i = c
              · have hii : pl[c] = i := by
                  have := C.get hi
                  rw [e2, List.getElem?_eq_getElem (show c < pl.length by omega)] at this
                  simpa using this
                rw [hii, hi] at hci; cases hci; omega
              · omega
            exact C.sq.chk c (pl.idxOf i) _ i oc o (List.getElem?_eq_getElem (show c < pl.length by omega)) (C.get hi) hci hi h3 h1 hlt
              (hna c _ oc hlt (by omega) (List.getElem?_eq_getElem (show c < pl.length by omega)) hci h3) hw
    exact key c hic hc hna

end
end Go.Proofs.YtnnebakkcdclmaaGreat.AM
