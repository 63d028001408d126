/-
  Proved here, for every program: a part of the soundness of an abstract machine against the model: lemmas. Conditions: none.
-/
import Derived.Test.YtnnebakkcdclmaaGreatAMWorld
namespace Go.Proofs.YtnnebakkcdclmaaGreat.AM
section
variable {P : Program} {φ : Phi}

/-! What a value that stands for a tree is. -/
theorem relV_B {x : Value} {b : Bool} : relV P φ (.B b) x ↔ x = .bool b := by simp [relV, relC, relT, pack]
theorem relV_I {x : Value} {k : IntKind} {n : Int} : relV P φ (.I k n) x ↔ x = .int k n := by simp [relV, relC, relT, pack]
theorem relV_F {x : Value} {k : FloatKind} {n : Nat} : relV P φ (.F k n) x ↔ x = .float k n := by simp [relV, relC, relT, pack]
theorem relV_X {x : Value} {k : FloatKind} {n m : Nat} : relV P φ (.X k n m) x ↔ x = .complex k n m := by simp [relV, relC, relT, pack]
theorem relV_S {x : Value} {s : ByteArray} : relV P φ (.S s) x ↔ x = .string s := by simp [relV, relC, relT, pack]
theorem relV_P0 {x : Value} : relV P φ .P0 x ↔ x = .pointer none := by simp [relV, relC, relT, pack]
theorem relV_L0 {x : Value} : relV P φ .L0 x ↔ x = .slice none 0 0 := by simp [relV, relC, relT, pack]
theorem relV_M0 {x : Value} : relV P φ .M0 x ↔ x = .map none := by simp [relV, relC, relT, pack]
theorem relV_Fn0 {x : Value} : relV P φ .Fn0 x ↔ x = .nilFunc := by simp [relV, relC, relT, pack]
theorem relV_If0 {x : Value} : relV P φ .If0 x ↔ x = .nilIface := by simp [relV, relC, relT, pack]
theorem relV_P {x : Value} {b : Nat} {p : List Step} : relV P φ (.P b p) x ↔ ∃ l, φ b = some l ∧ x = .pointer (some ⟨l.cb, l.base + offs P p, none⟩) := by
  simp only [relV, relC, relT, or_false]
  constructor
  · rintro ⟨cs, ⟨l, h1, rfl⟩, rfl⟩; exact ⟨l, h1, rfl⟩
  · rintro ⟨l, h1, rfl⟩; exact ⟨_, ⟨l, h1, rfl⟩, rfl⟩
theorem relV_M {x : Value} {b : Nat} : relV P φ (.M b) x ↔ ∃ l, φ b = some l ∧ x = .map (some l.cb) := by
  simp only [relV, relC, relT, or_false]
  constructor
  · rintro ⟨cs, ⟨l, h1, rfl⟩, rfl⟩; exact ⟨l, h1, rfl⟩
  · rintro ⟨l, h1, rfl⟩; exact ⟨_, ⟨l, h1, rfl⟩, rfl⟩
theorem relV_L {x : Value} {b : Nat} {p : List Step} {t s n c : Nat} {op : Bool} : relV P φ (.L b p t s n c op) x ↔ (∃ l off c', φ b = some l ∧ x = .slice (some ⟨l.cb, off, none⟩) n c' ∧ n ≤ c ∧
      (off = l.base + offs P p + s * P.cellsOf t ∨ (n = 0 ∧ c = 0)) ∧ (if op then c ≤ c' ∧ off + c' * P.cellsOf t ≤ l.top else c' = c)) ∨ (n = 0 ∧ c = 0 ∧ op = false ∧ ∃ a, x = .slice (some a) 0 0) := by
  simp only [relV, relC, relT, or_false]
  constructor
  · rintro ⟨cs, ⟨l, off, c', h1, rfl, h2⟩ | ⟨h1, h2, h3, a, rfl⟩, rfl⟩
    · exact .inl ⟨l, off, c', h1, rfl, h2⟩
    · exact .inr ⟨h1, h2, h3, a, rfl⟩
  · rintro (⟨l, off, c', h1, rfl, h2⟩ | ⟨h1, h2, h3, a, rfl⟩)
    · exact ⟨_, .inl ⟨l, off, c', h1, rfl, h2⟩, rfl⟩
    · exact ⟨_, .inr ⟨h1, h2, h3, a, rfl⟩, rfl⟩
theorem relV_Lmk {x : Value} {b : Nat} {p : List Step} {t s n c : Nat} {op : Bool} (h : ∃ l off c', φ b = some l ∧ x = .slice (some ⟨l.cb, off, none⟩) n c' ∧ n ≤ c ∧
      (off = l.base + offs P p + s * P.cellsOf t ∨ (n = 0 ∧ c = 0)) ∧ (if op then c ≤ c' ∧ off + c' * P.cellsOf t ≤ l.top else c' = c)) : relV P φ (.L b p t s n c op) x := relV_L.2 (.inl h)
theorem relV_Lany {x : Value} {b : Nat} {p : List Step} {t s n c : Nat} {op : Bool} (h : relV P φ (.L b p t s n c op) x) : ∃ a c', x = .slice (some a) n c' := by
  rcases relV_L.1 h with ⟨l, off, c', _, rfl, _⟩ | ⟨rfl, _, _, a, rfl⟩
  · exact ⟨_, _, rfl⟩
  · exact ⟨_, _, rfl⟩
theorem relV_Fn {x : Value} {f : Fn} {a c : List V} : relV P φ (.Fn f a c) x ↔ ∃ xs ys : List Value, x = .func f xs.toArray ys.toArray ∧ relVs P φ a xs ∧ relVs P φ c ys := by
  simp only [relV, relC, relT, or_false]
  constructor
  · rintro ⟨cs, ⟨xs, ys, rfl, h⟩, rfl⟩; exact ⟨xs, ys, rfl, h⟩
  · rintro ⟨xs, ys, rfl, h⟩; exact ⟨_, ⟨xs, ys, rfl, h⟩, rfl⟩
theorem relV_If {x : Value} {t : TypeId} {v : V} : relV P φ (.If t v) x ↔ ∃ y ds, x = .iface t y ∧ relC P φ v ds ∧ y = pack v ds := by
  simp only [relV, relC, relT, or_false]
  constructor
  · rintro ⟨cs, ⟨y, ds, rfl, h1, h2⟩, rfl⟩; exact ⟨y, ds, rfl, h1, h2⟩
  · rintro ⟨y, ds, rfl, h1, h2⟩; exact ⟨_, ⟨y, ds, rfl, h1, h2⟩, rfl⟩
theorem relV_T {x : Value} {vs : List V} : relV P φ (.T vs) x ↔ ∃ xs : List Value, x = .tuple xs.toArray ∧ relVs P φ vs xs := by
  simp only [relV, relC, relT]
  constructor
  · rintro (⟨cs, h, _⟩ | h)
    · exact h.elim
    · exact h
  · exact .inr
theorem relV_St {x : Value} {t : TypeId} {vs : List V} : relV P φ (.St t vs) x ↔ ∃ cs, relC P φ (.St t vs) cs ∧ x = .agg cs.toArray := by simp [relV, relT, pack]
theorem relV_Ar {x : Value} {t : TypeId} {vs : List V} : relV P φ (.Ar t vs) x ↔ ∃ cs, relC P φ (.Ar t vs) cs ∧ x = .agg cs.toArray := by simp [relV, relT, pack]
theorem relV_dd : relV P φ dd undef := relV_T.2 ⟨[], rfl, by simp [relVs]⟩

theorem relT_leaf {v : V} (hl : v.leaf = true) {x : Value} : ¬ relT P φ v x := by
  cases v <;> simp [V.leaf] at hl <;> simp [relT]

theorem relV_leaf {v : V} (hl : v.leaf = true) {x : Value} : relV P φ v x ↔ relC P φ v [x] := by
  constructor
  · rintro (⟨cs, r, rfl⟩ | h)
    · obtain ⟨y, rfl, _⟩ := relC_leaf hl r
      rwa [pack_leaf hl]
    · exact absurd h (relT_leaf hl)
  · exact fun r => .inl ⟨_, r, (pack_leaf hl).symm⟩

theorem relV_of {v : V} {cs : List Value} (r : relC P φ v cs) : relV P φ v (pack v cs) := .inl ⟨cs, r, rfl⟩

theorem const_rel {c : Value} {v : V} (h : constV c = some v) : relV P φ v c := by
  cases c <;> simp only [constV] at h <;> try (injection h with h; subst h)
  all_goals try (first | exact relV_B.2 rfl | exact relV_I.2 rfl | exact relV_F.2 rfl | exact relV_X.2 rfl | exact relV_S.2 rfl | exact relV_Fn0.2 rfl | exact relV_If0.2 rfl)
  case pointer a => cases a <;> simp at h; subst h; exact relV_P0.2 rfl
  case map a => cases a <;> simp at h; subst h; exact relV_M0.2 rfl
  case slice a n c =>
    cases a with
    | some a => simp at h
    | none =>
      cases n with
      | succ n => simp at h
      | zero =>
        cases c with
        | succ c => simp at h
        | zero => simp at h; subst h; exact relV_L0.2 rfl
  all_goals cases h

structure ERel (P : Program) (φ : Phi) (E : Env) (a : Act) (nt : Nat) : Prop where
  sz : a.tmps.size = nt
  df : a.defers = []
  at_ : ∀ t, t < nt → relV P φ (E t) (a.tmps.getD t undef)

theorem ERel.mono {φ ψ : Phi} (h : φ.le ψ) {E : Env} {a : Act} {nt : Nat} (r : ERel P φ E a nt) : ERel P ψ E a nt := ⟨r.sz, r.df, fun t ht => relV_mono h (r.at_ t ht)⟩

theorem opv_rel {E : Env} {a : Act} {nt : Nat} (r : ERel P φ E a nt) {x : Operand} (ho : okOp nt x = true) : relV P φ (opv E x) (a.eval x) := by
  cases x with
  | tmp t => exact r.at_ t (by simpa [okOp] using ho)
  | const c =>
    simp only [okOp, Option.isSome_iff_exists] at ho
    obtain ⟨v, hv⟩ := ho
    simp only [opv, hv, Option.getD_some, Act.eval]
    exact const_rel hv
  | global g => simp [okOp] at ho
  | func f => exact relV_Fn.2 ⟨[], [], rfl, by simp [relVs], by simp [relVs]⟩

theorem opvs_rel {E : Env} {a : Act} {nt : Nat} (r : ERel P φ E a nt) : ∀ {xs : List Operand}, xs.all (okOp nt) = true → relVs P φ (xs.map (opv E)) (xs.map a.eval)
  | [], _ => by simp [relVs]
  | x :: xs, h => by
    simp only [List.all_cons, Bool.and_eq_true] at h
    exact relVs_cons.2 ⟨_, _, rfl, opv_rel r h.1, opvs_rel r h.2⟩

theorem ERel.put {E : Env} {a : Act} {nt : Nat} (r : ERel P φ E a nt) {d : Option Nat} {v : V} {x : Value} (hv : relV P φ v x) : ERel P φ (E.upd nt d v) (a.put d x) nt := by
  cases d with
  | none => exact r
  | some d =>
    refine ⟨by simp [Act.put, r.sz], by simp [Act.put, r.df], fun t ht => ?_⟩
    have hs := r.sz
    simp only [Env.upd, Act.put, Array.getD_eq_getD_getElem?, Array.getElem?_setIfInBounds]
    by_cases hd : d < nt
    · rw [if_pos hd]
      by_cases e : t = d
      · subst e; simp [hs, hd, hv]
      · have e' : ¬ d = t := fun h => e h.symm
        simp only [if_neg e, if_neg e']
        simpa [Array.getD_eq_getD_getElem?] using r.at_ t ht
    · rw [if_neg hd]
      have e' : ¬ d = t := fun h => by omega
      simp only [if_neg e']
      simpa [Array.getD_eq_getD_getElem?] using r.at_ t ht

/-! Operations on values. -/
variable {w : World}

theorem pure?_run {α : Type} (s : Sem α) {a : α} (h : pure? P s = some a) : s.run P w = .ok a w := by
  induction s with
  | pure b => simp [pure?] at h; simp [Sem.run, h]
  | program k ih => simp only [pure?] at h; simp only [Sem.run]; exact ih P h
  | _ => simp [pure?] at h

theorem valF_rel {v : V} {x y : Value} (h : valF v = some y) (r : relV P φ v x) : x = y := by
  cases v <;> simp [valF] at h <;> subst h
  · exact relV_B.1 r
  · exact relV_I.1 r
  · exact relV_F.1 r
  · exact relV_X.1 r
  · exact relV_S.1 r

theorem ofVal_rel {v : V} {x : Value} (h : ofVal x = some v) : relV P φ v x := by
  cases x <;> simp [ofVal] at h <;> subst h
  · exact relV_B.2 rfl
  · exact relV_I.2 rfl
  · exact relV_F.2 rfl
  · exact relV_X.2 rfl
  · exact relV_S.2 rfl

theorem run_eqGuard (op : BinOp) (t : TypeId) (x y : Operand) (a b : Value) (h : ∀ c, a = .agg c → False) (h' : a = .nilIface → b = .nilIface → False) :
    (eqGuard op t x y a b).run P w = .ok () w := by
  unfold eqGuard
  cases op <;> simp
  all_goals
    cases a <;> cases b <;> simp_all

theorem run_ints {op : BinOp} {t : TypeId} {xo yo : Operand} {x y v : V} {a b : Value} (h : ints op x y = some v) (ra : relV P φ x a) (rb : relV P φ y b) :
    ∃ z, (do eqGuard op t xo yo a b; binOp op t a b).run P w = .ok z w ∧ relV P φ v z := by
  cases x <;> cases y <;> first | (simp [ints] at h; done) | skip
  rename_i k n k' m
  obtain rfl := relV_I.1 ra
  obtain rfl := relV_I.1 rb
  simp only [Sem.run_bind]
  rw [run_eqGuard op t xo yo _ _ (by simp) (by simp)]
  simp only [Result.andThen_ok]
  simp only [ints] at h
  cases op
  case shl =>
    simp only at h
    split at h
    · cases h
    · rename_i hc
      cases h
      exact ⟨_, by simp [binOp, Op.shift, hc], relV_I.2 rfl⟩
  case shr =>
    simp only at h
    split at h
    · cases h
    · rename_i hc
      cases h
      exact ⟨_, by simp [binOp, Op.shift, hc], relV_I.2 rfl⟩
  case quo =>
    simp only at h
    split at h
    · rename_i hk; subst hk
      split at h
      · cases h
      · rename_i hc
        cases h
        exact ⟨_, by simp [binOp, Op.intDiv, hc], relV_I.2 rfl⟩
    · cases h
  case rem =>
    simp only at h
    split at h
    · rename_i hk; subst hk
      split at h
      · cases h
      · rename_i hc
        cases h
        exact ⟨_, by simp [binOp, Op.intDiv, hc], relV_I.2 rfl⟩
    · cases h
  all_goals
    simp only at h
    split at h
    · rename_i hk; subst hk
      cases h
      refine ⟨_, by simp only [binOp, ne_eq, not_true_eq_false, if_false, Op.intArith, Op.intBits, Op.intCmp]; rfl, ?_⟩
      first | exact relV_I.2 rfl | exact relV_B.2 rfl
    · cases h

/-- Which type a kind of likeness is of. -/
def QK.fits (q : QK) (d : TypeDesc) : Prop :=
  match q, d with
  | .bo, .bool => True
  | .pt, .pointer _ => True
  | .sl, .slice _ => True
  | .mp, .map _ _ => True
  | .fn, .func _ _ _ => True
  | .nf, .interface _ => True
  | _, _ => False

theorem run_same {q : QK} {t : TypeId} {d : TypeDesc} (hd : P.underlying t = some d) (hq : q.fits d) {x y : V} {r : Bool} {a b : Value} (h : same q x y = some r) (ra : relV P φ x a) (rb : relV P φ y b) :
    (Op.equal t a b).run P w = .ok r w ∧ (∀ c, a = .agg c → False) ∧ (a = .nilIface → b = .nilIface → False) := by
  suffices H : ∀ n, (Op.equalIn (n + 1) t a b).run P w = .ok r w ∧ (∀ c, a = .agg c → False) ∧ (a = .nilIface → b = .nilIface → False) from H 9999
  intro n
  cases q <;> cases x <;> cases y <;> first | (simp [same] at h; done) | simp only [same] at h
  all_goals
    cases d <;> simp only [QK.fits] at hq
    simp only [Option.some.injEq] at h
    subst h
  case bo.B.B => 
    obtain rfl := relV_B.1 ra; obtain rfl := relV_B.1 rb
    refine ⟨?_, by simp, by simp⟩
    simp [Op.equalIn, run_underlying hd]
  case pt.P0.P0 =>
    obtain rfl := relV_P0.1 ra; obtain rfl := relV_P0.1 rb
    refine ⟨?_, by simp, by simp⟩
    simp [Op.equalIn, run_underlying hd]
  case pt.P0.P =>
    obtain rfl := relV_P0.1 ra; obtain ⟨l, _, rfl⟩ := relV_P.1 rb
    refine ⟨?_, by simp, by simp⟩
    simp [Op.equalIn, run_underlying hd]
  case pt.P.P0 =>
    obtain rfl := relV_P0.1 rb; obtain ⟨l, _, rfl⟩ := relV_P.1 ra
    refine ⟨?_, by simp, by simp⟩
    simp [Op.equalIn, run_underlying hd]
  case sl.L0.L0 =>
    obtain rfl := relV_L0.1 ra; obtain rfl := relV_L0.1 rb
    refine ⟨?_, by simp, by simp⟩
    simp [Op.equalIn, run_underlying hd]
  case sl.L0.L =>
    obtain rfl := relV_L0.1 ra; obtain ⟨_, _, rfl⟩ := relV_Lany rb
    refine ⟨?_, by simp, by simp⟩
    simp [Op.equalIn, run_underlying hd]
  case sl.L.L0 =>
    obtain rfl := relV_L0.1 rb; obtain ⟨_, _, rfl⟩ := relV_Lany ra
    refine ⟨?_, by simp, by simp⟩
    simp [Op.equalIn, run_underlying hd]
  case mp.M0.M0 =>
    obtain rfl := relV_M0.1 ra; obtain rfl := relV_M0.1 rb
    refine ⟨?_, by simp, by simp⟩
    simp [Op.equalIn, run_underlying hd]
  case mp.M0.M =>
    obtain rfl := relV_M0.1 ra; obtain ⟨l, _, rfl⟩ := relV_M.1 rb
    refine ⟨?_, by simp, by simp⟩
    simp [Op.equalIn, run_underlying hd]
  case mp.M.M0 =>
    obtain rfl := relV_M0.1 rb; obtain ⟨l, _, rfl⟩ := relV_M.1 ra
    refine ⟨?_, by simp, by simp⟩
    simp [Op.equalIn, run_underlying hd]
  case fn.Fn0.Fn0 =>
    obtain rfl := relV_Fn0.1 ra; obtain rfl := relV_Fn0.1 rb
    refine ⟨?_, by simp, by simp⟩
    simp [Op.equalIn, run_underlying hd]
  case fn.Fn0.Fn =>
    obtain rfl := relV_Fn0.1 ra; obtain ⟨xs, ys, rfl, _⟩ := relV_Fn.1 rb
    refine ⟨?_, by simp, by simp⟩
    simp [Op.equalIn, run_underlying hd]
  case fn.Fn.Fn0 =>
    obtain rfl := relV_Fn0.1 rb; obtain ⟨xs, ys, rfl, _⟩ := relV_Fn.1 ra
    refine ⟨?_, by simp, by simp⟩
    simp [Op.equalIn, run_underlying hd]
  case nf.If0.If =>
    obtain rfl := relV_If0.1 ra; obtain ⟨z, _, rfl, _⟩ := relV_If.1 rb
    refine ⟨?_, by simp, by simp⟩
    simp [Op.equalIn, run_underlying hd]
  case nf.If.If0 =>
    obtain rfl := relV_If0.1 rb; obtain ⟨z, _, rfl, _⟩ := relV_If.1 ra
    refine ⟨?_, by simp, by simp⟩
    simp [Op.equalIn, run_underlying hd]

end
end Go.Proofs.YtnnebakkcdclmaaGreat.AM
