/-
  Proved here, for every program: a part of the soundness of an abstract machine against the model: lemmas. Conditions: none.
-/
import Derived.Test.YtnnebakkcdclmaaGreatAMDraw4
namespace Go.Proofs.YtnnebakkcdclmaaGreat.AM

section
variable {P : Program} {call : CallT} {nt : Nat} {ops : Array Oper} {pl : List Nat} {Es : Nat → Env} {HS HH : Nat → H} {vs : Nat → V}

/-- What lies in memory: what the last act left, and the blocks laid since. -/
def BB (P : Program) (ops : Array Oper) (pl : List Nat) (Es : Nat → Env) (HS HH : Nat → H) (c q : Nat) (l : Nat → Prop) (b : Nat) (x : Blk) : Prop :=
  (HS c).get b = some x ∨ ∃ i o m, l i ∧ q ≤ pl.idxOf i ∧ ops.toList[i]? = some o ∧ cls o.op = 2 ∧ wants ops.toList (Es (pl.idxOf i)) o = true ∧
    b = (HH (pl.idxOf i)).next ∧ evA P (Es (pl.idxOf i)) o = some (x, m)

structure Stg (P : Program) (nt : Nat) (ops : Array Oper) (pl : List Nat) (Es : Nat → Env) (HS HH : Nat → H) (vs : Nat → V) (φ0 : Phi) (h0 : H) (w0 : World) (c q : Nat) (l : Nat → Prop) (φ : Phi) (a : Act) (w : World) : Prop where
  dc : ∀ i j oi, l i → ops.toList[i]? = some oi → j < ops.toList.length → ((anc ops.toList).getD i 0).testBit j = true → l j
  cn : c ≤ pl.length
  qc : q ≤ c
  hq : HH q = HS c
  lt : ∀ b x, (HS c).get b = some x → b < (HS c).next
  qs : q = 0 ∨ ∃ i o, pl[q - 1]? = some i ∧ ops.toList[i]? = some o ∧ cls o.op = 3 ∧ 0 < q
  nq : ∀ p i o, q ≤ p → p < c → pl[p]? = some i → ops.toList[i]? = some o → cls o.op ≠ 3
  eff : ∀ p i o, p < c → pl[p]? = some i → ops.toList[i]? = some o → cls o.op = 3 → l i
  nxt : c < pl.length → ∃ i o, pl[c]? = some i ∧ ops.toList[i]? = some o ∧ cls o.op = 3 ∧ ¬ l i
  er : ERel P φ (cur ops pl (Es 0) vs l) a nt
  inv : Inv P φ0 h0 w0 (HH pl.length).next φ (BB P ops pl Es HS HH c q l) w
  free : ∀ b, (HS c).next ≤ b → b < (HH pl.length).next → (∀ i o, l i → q ≤ pl.idxOf i → ops.toList[i]? = some o → cls o.op = 2 → wants ops.toList (Es (pl.idxOf i)) o = true → (HH (pl.idxOf i)).next ≠ b) → φ b = none

theorem Ctx.at_pos (C : Ctx P call nt ops pl Es HS HH vs) {i p : Nat} (hp : pl[p]? = some i) : pl.idxOf i = p := idxOf_of_get C.hd.nodup hp

theorem Ctx.pos_lt (C : Ctx P call nt ops pl Es HS HH vs) {i : Nat} {o : Oper} (hi : ops.toList[i]? = some o) : pl.idxOf i < pl.length :=
  List.idxOf_lt_length_of_mem (C.hd.all i (List.getElem?_eq_some_iff.1 hi).1)

theorem Ctx.pos_inj (C : Ctx P call nt ops pl Es HS HH vs) {i j : Nat} {oi oj : Oper} (hi : ops.toList[i]? = some oi) (hj : ops.toList[j]? = some oj) (e : pl.idxOf i = pl.idxOf j) : i = j := by
  have h1 := C.get hi
  rw [e, C.get hj] at h1
  exact (Option.some.inj h1).symm

/-- A block laid gets the number that the plan gives it. -/
theorem Ctx.laid (C : Ctx P call nt ops pl Es HS HH vs) {i : Nat} {o : Oper} (hi : ops.toList[i]? = some o) (hc : cls o.op = 2) (hw : wants ops.toList (Es (pl.idxOf i)) o = true) :
    ∃ blk m, evA P (Es (pl.idxOf i)) o = some (blk, m) ∧ vs (pl.idxOf i) = m.val (HH (pl.idxOf i)).next ∧ HH (pl.idxOf i + 1) = (HH (pl.idxOf i)).new blk := by
  rcases (C.step hi).2 with ⟨h, _⟩ | ⟨_, h, _⟩ | ⟨h, _⟩
  · omega
  · unfold gE mkB at h
    rw [hw] at h
    simp only [if_true] at h
    split at h
    · rename_i blk m hA
      simp only [Option.some.injEq, Prod.mk.injEq] at h
      exact ⟨blk, m, hA, h.1.symm, h.2.symm⟩
    · cases h
  · omega

theorem Ctx.unlaid (C : Ctx P call nt ops pl Es HS HH vs) {i : Nat} {o : Oper} (hi : ops.toList[i]? = some o) (_hc : cls o.op ≠ 3 ∨ True) (hw : wants ops.toList (Es (pl.idxOf i)) o = false) :
    vs (pl.idxOf i) = dd ∧ HH (pl.idxOf i + 1) = HH (pl.idxOf i) := by
  rcases (C.step hi).2 with ⟨_, h, _, h'⟩ | ⟨_, h, _⟩ | ⟨_, h, _⟩
  · unfold gV at h
    rw [hw] at h
    simp only [Bool.false_eq_true, if_false, Option.some.injEq] at h
    exact ⟨h.symm, h'⟩
  · unfold gE at h
    rw [hw] at h
    simp only [Bool.false_eq_true, if_false, Option.some.injEq, Prod.mk.injEq] at h
    exact ⟨h.1.symm, h.2.symm⟩
  · unfold gE at h
    rw [hw] at h
    simp only [Bool.false_eq_true, if_false, Option.some.injEq, Prod.mk.injEq] at h
    exact ⟨h.1.symm, h.2.symm⟩

/-- Numbers of blocks grow with the plan. -/
theorem Ctx.ids (C : Ctx P call nt ops pl Es HS HH vs) {i j : Nat} {oi oj : Oper} (hi : ops.toList[i]? = some oi) (hc : cls oi.op = 2) (hw : wants ops.toList (Es (pl.idxOf i)) oi = true) (hj : ops.toList[j]? = some oj)
    (hlt : pl.idxOf i < pl.idxOf j) : (HH (pl.idxOf i)).next < (HH (pl.idxOf j)).next := by
  obtain ⟨blk, m, _, _, h⟩ := C.laid hi hc hw
  have h1 := C.mono (p := pl.idxOf i + 1) (q := pl.idxOf j) hlt (Nat.le_of_lt (C.pos_lt hj))
  rw [h] at h1
  simp at h1
  omega

theorem Ctx.id_lt (C : Ctx P call nt ops pl Es HS HH vs) {i : Nat} {oi : Oper} (hi : ops.toList[i]? = some oi) (hc : cls oi.op = 2) (hw : wants ops.toList (Es (pl.idxOf i)) oi = true) {p : Nat} (hp : p ≤ pl.length)
    (hlt : pl.idxOf i < p) : (HH (pl.idxOf i)).next < (HH p).next := by
  obtain ⟨blk, m, _, _, h⟩ := C.laid hi hc hw
  have h1 := C.mono (p := pl.idxOf i + 1) (q := p) hlt hp
  rw [h] at h1
  simp at h1
  omega

/-- What the plan's memory holds, from a stage's start on. -/
theorem Ctx.heap (C : Ctx P call nt ops pl Es HS HH vs) {q : Nat} : ∀ {p : Nat}, q ≤ p → p ≤ pl.length → (∀ p' i o, q ≤ p' → p' < p → pl[p']? = some i → ops.toList[i]? = some o → cls o.op ≠ 3) →
    ∀ b x, (HH p).get b = some x → (HH q).get b = some x ∨ ∃ i o m, q ≤ pl.idxOf i ∧ pl.idxOf i < p ∧ ops.toList[i]? = some o ∧ cls o.op = 2 ∧ wants ops.toList (Es (pl.idxOf i)) o = true ∧
    b = (HH (pl.idxOf i)).next ∧ evA P (Es (pl.idxOf i)) o = some (x, m)
  | 0, h, _, _, b, x, hx => by
    obtain rfl : q = 0 := by omega
    exact .inl hx
  | p + 1, h, hp, hn, b, x, hx => by
    by_cases e : q = p + 1
    · rw [e]; exact .inl hx
    · obtain ⟨o, hi, hpos⟩ := C.op (List.getElem?_eq_getElem (show p < pl.length by omega))
      have hget := List.getElem?_eq_getElem (show p < pl.length by omega)
      have h3 := hn p _ o (by omega) (by omega) hget hi
      have up : ∀ b x, (HH p).get b = some x → (HH q).get b = some x ∨ ∃ i o m, q ≤ pl.idxOf i ∧ pl.idxOf i < p + 1 ∧ ops.toList[i]? = some o ∧ cls o.op = 2 ∧ wants ops.toList (Es (pl.idxOf i)) o = true ∧
          b = (HH (pl.idxOf i)).next ∧ evA P (Es (pl.idxOf i)) o = some (x, m) := by
        intro b x hx
        rcases C.heap (p := p) (by omega) (by omega) (fun p' i o g1 g2 => hn p' i o g1 (by omega)) b x hx with k | ⟨i, o, m, k1, k2, k3⟩
        · exact .inl k
        · exact .inr ⟨i, o, m, k1, by omega, k3⟩
      have hst := C.step hi
      by_cases h2 : cls o.op = 2
      · cases hw : wants ops.toList (Es (pl.idxOf pl[p])) o with
        | true =>
          obtain ⟨blk, m, g1, _, g3⟩ := C.laid hi h2 hw
          rw [hpos] at g3
          rw [g3, H.get_new] at hx
          by_cases eb : b = (HH p).next
          · rw [if_pos eb] at hx
            simp only [Option.some.injEq] at hx
            subst hx
            exact .inr ⟨_, o, m, by omega, by omega, hi, h2, hw, by rw [hpos]; exact eb, g1⟩
          · rw [if_neg eb] at hx; exact up b x hx
        | false =>
          have := (C.unlaid hi (.inr trivial) hw).2
          rw [hpos] at this
          rw [this] at hx; exact up b x hx
      · rcases hst.2 with ⟨_, _, _, g⟩ | ⟨g, _⟩ | ⟨g, _⟩
        · rw [hpos] at g; rw [g] at hx; exact up b x hx
        · exact absurd g h2
        · exact absurd g h3

end
end Go.Proofs.YtnnebakkcdclmaaGreat.AM
