/-
  Proved here, for every program: a part of the soundness of an abstract machine against the model: lemmas. Conditions: none.
-/
import Derived.Test.YtnnebakkcdclmaaGreatAMRel
import Derived.Test.YtnnebakkcdclmaaGreatAMCongr
import Derived.Test.YtnnebakkcdclmaaGreatAMMono
namespace Go.Proofs.YtnnebakkcdclmaaGreat.AM

/-! What stands ahead. -/
theorem bits_fold (acc : List Nat) (i : Nat) : ∀ (es : List Edge) (s : Nat),
    (es.foldl (fun s e => if Region.binds .any e then s ||| 2 ^ e.on ||| acc.getD e.on 0 else s) s).testBit i = true ↔
      s.testBit i = true ∨ ∃ e ∈ es, Region.binds .any e = true ∧ (e.on = i ∨ (acc.getD e.on 0).testBit i = true)
  | [], s => by simp
  | e :: es, s => by
    simp only [List.foldl_cons]
    rw [bits_fold acc i es]
    by_cases hb : Region.binds .any e = true
    · simp only [hb, if_true, Nat.testBit_or, Nat.testBit_two_pow, Bool.or_eq_true, decide_eq_true_eq, List.mem_cons, exists_eq_or_imp, true_and]
      constructor
      · rintro (((h | h) | h) | h)
        · exact .inl h
        · exact .inr (.inl (.inl h))
        · exact .inr (.inl (.inr h))
        · exact .inr (.inr h)
      · rintro (h | (h | h) | h)
        · exact .inl (.inl (.inl h))
        · exact .inl (.inl (.inr h))
        · exact .inl (.inr h)
        · exact .inr h
    · simp only [hb, Bool.false_eq_true, if_false, List.mem_cons, exists_eq_or_imp, false_and, false_or]

def bitsOf (acc : List Nat) (o : Oper) : Nat := o.after.toList.foldl (fun s e => if Region.binds .any e then s ||| 2 ^ e.on ||| acc.getD e.on 0 else s) 0

theorem anc_fold : ∀ (ops : List Oper) (acc : List Nat), ∃ rest, ops.foldl (fun acc o => acc ++ [bitsOf acc o]) acc = acc ++ rest ∧ rest.length = ops.length ∧
    ∀ j o, ops[j]? = some o → rest[j]? = some (bitsOf (acc ++ rest.take j) o)
  | [], acc => ⟨[], by simp⟩
  | o :: ops, acc => by
    obtain ⟨rest, h1, h2, h3⟩ := anc_fold ops (acc ++ [bitsOf acc o])
    refine ⟨bitsOf acc o :: rest, by simp [h1], by simp [h2], fun j o' hj => ?_⟩
    cases j with
    | zero => simp at hj; subst hj; simp
    | succ j =>
      simp at hj
      have := h3 j o' hj
      simpa using this

theorem anc_spec {ops : List Oper} {j : Nat} {o : Oper} (hj : ops[j]? = some o) (i : Nat) :
    ((anc ops).getD j 0).testBit i = true ↔ ∃ e ∈ o.after.toList, Region.binds .any e = true ∧ (e.on = i ∨ (e.on < j ∧ ((anc ops).getD e.on 0).testBit i = true)) := by
  have hanc : anc ops = ops.foldl (fun acc o => acc ++ [bitsOf acc o]) [] := rfl
  obtain ⟨rest, h1, h2, h3⟩ := anc_fold ops []
  rw [List.nil_append] at h1
  rw [hanc, h1]
  have hr := h3 j o hj
  rw [List.nil_append] at hr
  have hjl : j < ops.length := (List.getElem?_eq_some_iff.1 hj).1
  have hget : rest.getD j 0 = bitsOf (rest.take j) o := by rw [List.getD_eq_getElem?_getD, hr]; rfl
  rw [hget, bitsOf, bits_fold]
  simp only [Nat.zero_testBit, Bool.false_eq_true, false_or]
  have ht : ∀ e : Nat, ((rest.take j).getD e 0).testBit i = true ↔ (e < j ∧ (rest.getD e 0).testBit i = true) := by
    intro e
    simp only [List.getD_eq_getElem?_getD, List.getElem?_take]
    by_cases he : e < j
    · simp [he]
    · simp [he]
  constructor
  · rintro ⟨e, he, hb, h | h⟩
    · exact ⟨e, he, hb, .inl h⟩
    · exact ⟨e, he, hb, .inr ((ht _).1 h)⟩
  · rintro ⟨e, he, hb, h | h⟩
    · exact ⟨e, he, hb, .inl h⟩
    · exact ⟨e, he, hb, .inr ((ht _).2 h)⟩

/-! What a run through a region has met. -/
section
variable {P : Program}

structure Seqs (P : Program) (call : CallT) (nt : Nat) (L : List Oper) (an : List Nat) (is : List Nat) (Es : Nat → Env) (HS HH : Nat → H) (vs : Nat → V) : Prop where
  step : ∀ p i, is[p]? = some i → ∃ o, L[i]? = some o ∧ Es (p + 1) = (Es p).upd nt o.dst (vs p) ∧
    ((cls o.op ≤ 1 ∧ gV (wants L (Es p) o) (fun _ => evV P (Es p) (HS p) o) = some (vs p) ∧ HS (p + 1) = HS p ∧ HH (p + 1) = HH p) ∨
     (cls o.op = 2 ∧ gE (wants L (Es p) o) (HH p) (fun _ => mkB (HH p) (evA P (Es p) o)) = some (vs p, HH (p + 1)) ∧ HS (p + 1) = HS p) ∨
     (cls o.op = 3 ∧ gE (wants L (Es p) o) (HH p) (fun _ => evE P call (Es p) (HH p) o) = some (vs p, HH (p + 1)) ∧ HS (p + 1) = HH (p + 1)))
  chk : ∀ p q i j o oj, is[p]? = some i → is[q]? = some j → L[i]? = some o → L[j]? = some oj → cls o.op = 3 → cls oj.op = 1 → q < p → (an.getD i 0).testBit j = false → wants L (Es q) oj = true →
    evV P (Es q) (HH (p + 1)) oj = some (vs q)

theorem chks_spec {L : List Oper} {h : H} {m : Nat} : ∀ {rs : List Rd}, chks P L h m rs = some () → ∀ rd ∈ rs, m.testBit rd.i = false → ∃ o, L[rd.i]? = some o ∧ (rd.w = true → evV P rd.E h o = some rd.v)
  | [], _, rd, hm, _ => by cases hm
  | r :: rs, hc, rd, hm, hb => by
    simp only [chks] at hc
    split at hc
    · rename_i hbit
      rcases List.mem_cons.1 hm with rfl | hm
      · rw [hb] at hbit; cases hbit
      · exact chks_spec hc rd hm hb
    · split at hc
      · rename_i o ho
        simp only [Option.bind_eq_some_iff] at hc
        obtain ⟨_, h1, h2⟩ := hc
        rcases List.mem_cons.1 hm with rfl | hm
        · refine ⟨o, ho, fun hw => ?_⟩
          unfold chk at h1
          rw [if_pos hw] at h1
          split at h1
          · rename_i u hu
            split at h1
            · rename_i he
              have hu' : evV P rd.E h o = some u := hu
              rw [hu', V.eq_of he]
            · cases h1
          · cases h1
        · exact chks_spec h2 rd hm hb
      · cases hc

theorem seqs_of {call : CallT} {nt : Nat} {L : List Oper} {an : List Nat} {R : Type} {r : R} {k : Env → H → Option R} : ∀ {is : List Nat} {rs : List Rd} {E : Env} {hs h : H}, evDraw P call nt L an is rs E hs h k = some r →
    ∃ Es HS HH vs, Es 0 = E ∧ HS 0 = hs ∧ HH 0 = h ∧ Seqs P call nt L an is Es HS HH vs ∧
      (∀ p i o, is[p]? = some i → L[i]? = some o → cls o.op = 3 → ∀ rd ∈ rs, (an.getD i 0).testBit rd.i = false → ∃ oj, L[rd.i]? = some oj ∧ (rd.w = true → evV P rd.E (HH (p + 1)) oj = some rd.v)) ∧
      k (Es is.length) (HH is.length) = some r
  | [], rs, E, hs, h, he => ⟨fun _ => E, fun _ => hs, fun _ => h, fun _ => dd, rfl, rfl, rfl, ⟨fun p i hp => by simp at hp, fun p q i j o oj hp => by simp at hp⟩, fun p i o hp => by simp at hp, he⟩
  | i :: is, rs, E, hs, h, he => by
    simp only [evDraw] at he
    cases hi : L[i]? with
    | none => simp [hi] at he
    | some o =>
      simp only [hi] at he
      have build : ∀ (v : V) (rs' : List Rd) (hs' h' : H), (∀ rd ∈ rs, rd ∈ rs') → (cls o.op = 1 → (⟨i, E, wants L E o, v⟩ : Rd) ∈ rs') →
          ((cls o.op ≤ 1 ∧ gV (wants L E o) (fun _ => evV P E hs o) = some v ∧ hs' = hs ∧ h' = h) ∨
           (cls o.op = 2 ∧ gE (wants L E o) h (fun _ => mkB h (evA P E o)) = some (v, h') ∧ hs' = hs) ∨
           (cls o.op = 3 ∧ gE (wants L E o) h (fun _ => evE P call E h o) = some (v, h') ∧ hs' = h')) →
          (cls o.op = 3 → ∀ rd ∈ rs, (an.getD i 0).testBit rd.i = false → ∃ oj, L[rd.i]? = some oj ∧ (rd.w = true → evV P rd.E h' oj = some rd.v)) →
          evDraw P call nt L an is rs' (E.upd nt o.dst v) hs' h' k = some r →
          ∃ Es HS HH vs, Es 0 = E ∧ HS 0 = hs ∧ HH 0 = h ∧ Seqs P call nt L an (i :: is) Es HS HH vs ∧
            (∀ p i' o', (i :: is)[p]? = some i' → L[i']? = some o' → cls o'.op = 3 → ∀ rd ∈ rs, (an.getD i' 0).testBit rd.i = false → ∃ oj, L[rd.i]? = some oj ∧ (rd.w = true → evV P rd.E (HH (p + 1)) oj = some rd.v)) ∧
            k (Es (i :: is).length) (HH (i :: is).length) = some r := by
        intro v rs' hs' h' hrs hrd hst hck hgo
        obtain ⟨Es, HS, HH, vs, e1, e2, e3, S, C, hk⟩ := seqs_of hgo
        refine ⟨fun p => match p with | 0 => E | p + 1 => Es p, fun p => match p with | 0 => hs | p + 1 => HS p, fun p => match p with | 0 => h | p + 1 => HH p, fun p => match p with | 0 => v | p + 1 => vs p, rfl, rfl, rfl, ⟨?_, ?_⟩, ?_, ?_⟩
        · intro p i' hp
          cases p with
          | zero =>
            simp at hp; subst hp
            refine ⟨o, hi, e1, ?_⟩
            rcases hst with ⟨h1, h2, h3, h4⟩ | ⟨h1, h2, h3⟩ | ⟨h1, h2, h3⟩
            · exact .inl ⟨h1, h2, by rw [← h3]; exact e2, by rw [← h4]; exact e3⟩
            · exact .inr (.inl ⟨h1, by simp only [e3]; exact h2, by rw [← h3]; exact e2⟩)
            · refine .inr (.inr ⟨h1, by simp only [e3]; exact h2, ?_⟩)
              simp only [e2, e3, h3]
          | succ p =>
            simp at hp
            exact S.step p i' hp
        · intro p q i' j o' oj hp hq ho hoj hc1 hc2 hlt hb hw
          cases p with
          | zero => omega
          | succ p =>
            simp at hp
            cases q with
            | zero =>
              simp at hq; subst hq
              rw [hi] at hoj; cases hoj
              obtain ⟨oj', h1, h2⟩ := C p i' o' hp ho hc1 _ (hrd hc2) hb
              rw [hi] at h1; cases h1
              exact h2 hw
            | succ q =>
              simp at hq
              exact S.chk p q i' j o' oj hp hq ho hoj hc1 hc2 (by omega) hb hw
        · intro p i' o' hp ho hc rd hm hb
          cases p with
          | zero =>
            simp at hp; subst hp
            rw [hi] at ho; cases ho
            obtain ⟨oj, h1, h2⟩ := hck hc rd hm hb
            exact ⟨oj, h1, fun hw => by simp only [e3]; exact h2 hw⟩
          | succ p =>
            simp at hp
            exact C p i' o' hp ho hc rd (hrs rd hm) hb
        · exact hk
      split at he
      · rename_i hc
        simp only [Option.bind_eq_some_iff] at he
        obtain ⟨v, hv, he⟩ := he
        exact build v rs hs h (fun _ h => h) (fun h => by omega) (.inl ⟨by omega, hv, rfl, rfl⟩) (fun h => by omega) he
      · rename_i hc
        simp only [Option.bind_eq_some_iff] at he
        obtain ⟨v, hv, he⟩ := he
        exact build v _ hs h (fun rd hm => List.mem_append.2 (.inl hm)) (fun h => by simp) (.inl ⟨by omega, hv, rfl, rfl⟩) (fun h => by omega) he
      · rename_i hc
        simp only [Option.bind_eq_some_iff] at he
        obtain ⟨⟨v, h1⟩, hv, he⟩ := he
        exact build v rs hs h1 (fun _ h => h) (fun h => by omega) (.inr (.inl ⟨hc, hv, rfl⟩)) (fun h => by omega) he
      · rename_i hc
        simp only [Option.bind_eq_some_iff] at he
        obtain ⟨⟨v, h1⟩, hv, _, hck, he⟩ := he
        exact build v rs h1 h1 (fun _ h => h) (fun h => by omega) (.inr (.inr ⟨hc, hv, rfl⟩)) (fun _ rd hm hb => chks_spec hck rd hm hb) he
      · cases he

end
end Go.Proofs.YtnnebakkcdclmaaGreat.AM
