/-
  Proved here, for every program: a part of the soundness of an abstract machine against the model: lemmas. Conditions: none.
-/
import Derived.Test.YtnnebakkcdclmaaGreatAMDef
import Derived.Laws.Cells
import Derived.Laws.CopyRow
import Derived.ChangeKeysEq
import Derived.Laws.Entries
import Derived.RowKit3
namespace Go.Proofs.YtnnebakkcdclmaaGreat.AM

/-! Equality of trees. -/
mutual
theorem V.eq_of : ∀ {v u : V}, v.eq u = true → v = u
  | .B _, u, h => by cases u <;> simp_all [V.eq]
  | .I _ _, u, h => by cases u <;> simp_all [V.eq]
  | .F _ _, u, h => by cases u <;> simp_all [V.eq]
  | .X _ _ _, u, h => by cases u <;> simp_all [V.eq]
  | .S _, u, h => by cases u <;> simp_all [V.eq]
  | .P _ _, u, h => by cases u <;> simp_all [V.eq]
  | .P0, u, h => by cases u <;> simp_all [V.eq]
  | .L .., u, h => by cases u <;> simp_all [V.eq]
  | .L0, u, h => by cases u <;> simp_all [V.eq]
  | .M _, u, h => by cases u <;> simp_all [V.eq]
  | .M0, u, h => by cases u <;> simp_all [V.eq]
  | .Fn f a c, u, h => by
    cases u <;> simp [V.eq] at h
    exact by rw [h.1.1, V.eqs_of h.1.2, V.eqs_of h.2]
  | .Fn0, u, h => by cases u <;> simp_all [V.eq]
  | .If t v, u, h => by
    cases u <;> simp [V.eq] at h
    exact by rw [h.1, V.eq_of h.2]
  | .If0, u, h => by cases u <;> simp_all [V.eq]
  | .St t vs, u, h => by
    cases u <;> simp [V.eq] at h
    exact by rw [h.1, V.eqs_of h.2]
  | .Ar t vs, u, h => by
    cases u <;> simp [V.eq] at h
    exact by rw [h.1, V.eqs_of h.2]
  | .T vs, u, h => by
    cases u <;> simp [V.eq] at h
    exact by rw [V.eqs_of h]
theorem V.eqs_of : ∀ {vs us : List V}, V.eqs vs us = true → vs = us
  | [], us, h => by cases us <;> simp_all [V.eqs]
  | v :: vs, us, h => by
    cases us <;> simp [V.eqs] at h
    exact by rw [V.eq_of h.1, V.eqs_of h.2]
end

mutual
theorem V.eq_self : ∀ v : V, v.eq v = true
  | .B _ | .I _ _ | .F _ _ | .X _ _ _ | .S _ | .P _ _ | .P0 | .L .. | .L0 | .M _ | .M0 | .Fn0 | .If0 => by simp [V.eq]
  | .Fn f a c => by simp [V.eq, V.eqs_self]
  | .If t v => by simp [V.eq, V.eq_self v]
  | .St t vs => by simp [V.eq, V.eqs_self]
  | .Ar t vs => by simp [V.eq, V.eqs_self]
  | .T vs => by simp [V.eq, V.eqs_self]
theorem V.eqs_self : ∀ vs : List V, V.eqs vs vs = true
  | [] => by simp [V.eqs]
  | v :: vs => by simp [V.eqs, V.eq_self v, V.eqs_self vs]
end

/-! The table of blocks. -/
theorem Tr.get_set (f : Nat) (t : Tr) (n m : Nat) (x : Option Blk) (h : n ≤ f) : (Tr.set f t n x).get m = if m = n then x else t.get m := by
  have hg : ∀ (l : Tr) (y : Option Blk) (r : Tr) (m : Nat), (Tr.node l y r).get m = if m = 0 then y else if m % 2 = 1 then l.get (m / 2) else r.get (m / 2 - 1) := fun l y r m => by simp [Tr.get]
  have hn : ∀ m, Tr.nil.get m = none := fun m => by simp [Tr.get]
  have h2 : n ≠ 0 → n % 2 = 1 → m % 2 = 1 → (m / 2 = n / 2 ↔ m = n) := by omega
  have h3 : m ≠ 0 → n ≠ 0 → ¬n % 2 = 1 → ¬m % 2 = 1 → (m / 2 - 1 = n / 2 - 1 ↔ m = n) := by omega
  induction f generalizing t n m with
  | zero =>
    obtain rfl : n = 0 := by omega
    cases t with
    | nil =>
      simp only [Tr.set, hg, hn]
      repeat' split
      all_goals first | rfl | contradiction
    | node l y r =>
      simp only [Tr.set, hg]
      split <;> rfl
  | succ f ih =>
    have go : ∀ (l : Tr) (y : Option Blk) (r : Tr), (if n = 0 then Tr.node l x r else if n % 2 = 1 then Tr.node (Tr.set f l (n / 2) x) y r else Tr.node l y (Tr.set f r (n / 2 - 1) x)).get m = if m = n then x else (Tr.node l y r).get m := by
      intro l y r
      by_cases h0 : n = 0
      · subst h0
        rw [if_pos rfl, hg, hg]
        split <;> rfl
      · rw [if_neg h0]
        by_cases hp : n % 2 = 1
        · rw [if_pos hp, hg, hg]
          by_cases hm : m = 0
          · rw [if_pos hm, if_pos hm, if_neg (by omega)]
          · rw [if_neg hm, if_neg hm]
            by_cases hq : m % 2 = 1
            · rw [if_pos hq, if_pos hq, ih l (n / 2) (m / 2) (by omega) (by omega) (by omega)]
              by_cases e : m = n
              · rw [if_pos ((h2 h0 hp hq).2 e), if_pos e]
              · rw [if_neg (fun e' => e ((h2 h0 hp hq).1 e')), if_neg e]
            · rw [if_neg hq, if_neg hq, if_neg (by omega)]
        · rw [if_neg hp, hg, hg]
          by_cases hm : m = 0
          · rw [if_pos hm, if_pos hm, if_neg (by omega)]
          · rw [if_neg hm, if_neg hm]
            by_cases hq : m % 2 = 1
            · rw [if_pos hq, if_pos hq, if_neg (by omega)]
            · rw [if_neg hq, if_neg hq, ih r (n / 2 - 1) (m / 2 - 1) (by omega) (by omega) (by omega)]
              by_cases e : m = n
              · rw [if_pos ((h3 hm h0 hp hq).2 e), if_pos e]
              · rw [if_neg (fun e' => e ((h3 hm h0 hp hq).1 e')), if_neg e]
    cases t with
    | nil =>
      have := go .nil none .nil
      simp only [Tr.set]
      rw [this]
      split
      · rfl
      · rw [hg, hn, hn, hn]
        repeat' split
        all_goals rfl
    | node l y r =>
      simp only [Tr.set]
      exact go l y r

theorem H.get_put (h : H) (b c : Nat) (x : Option Blk) : (h.put b x).get c = if c = b then x else h.get c := Tr.get_set _ _ _ _ _ (Nat.le_refl _)
theorem H.get_new (h : H) (c : Nat) (x : Blk) : (h.new x).get c = if c = h.next then some x else h.get c := Tr.get_set _ _ _ _ _ (Nat.le_refl _)
@[simp] theorem H.next_put (h : H) (b : Nat) (x : Option Blk) : (h.put b x).next = h.next := rfl
@[simp] theorem H.next_new (h : H) (x : Blk) : (h.new x).next = h.next + 1 := rfl

/-! Where a block lies in the model's memory. -/
structure Loc where
  cb : Nat
  base : Nat
  top : Nat

abbrev Phi := Nat → Option Loc

def Phi.le (φ ψ : Phi) : Prop := ∀ b l, φ b = some l → ψ b = some l
theorem Phi.le_refl (φ : Phi) : φ.le φ := fun _ _ h => h
theorem Phi.le_trans {φ ψ χ : Phi} (h : φ.le ψ) (h' : ψ.le χ) : φ.le χ := fun b l e => h' b l (h b l e)

def offOf (P : Program) : Step → Nat
  | .fd t i => match fieldsOf P t with | some fs => ((fs[i]?).map (·.offset)).getD 0 | none => 0
  | .ix t j => j * P.cellsOf t
def offs (P : Program) : List Step → Nat
  | [] => 0
  | s :: p => offOf P s + offs P p
theorem offs_append (P : Program) (p q : List Step) : offs P (p ++ q) = offs P p + offs P q := by
  induction p with
  | nil => simp [offs]
  | cons s p ih => simp [offs, ih]; omega

def pack : V → List Value → Value
  | .St .., cs => .agg cs.toArray
  | .Ar .., cs => .agg cs.toArray
  | _, cs => cs.headD undef

mutual
def relC (P : Program) (φ : Phi) : V → List Value → Prop
  | .B x, cs => cs = [.bool x]
  | .I k n, cs => cs = [.int k n]
  | .F k n, cs => cs = [.float k n]
  | .X k n m, cs => cs = [.complex k n m]
  | .S x, cs => cs = [.string x]
  | .P b p, cs => ∃ l, φ b = some l ∧ cs = [.pointer (some ⟨l.cb, l.base + offs P p, none⟩)]
  | .P0, cs => cs = [.pointer none]
  | .L b p t s n c op, cs => (∃ l off c', φ b = some l ∧ cs = [.slice (some ⟨l.cb, off, none⟩) n c'] ∧ n ≤ c ∧
      (off = l.base + offs P p + s * P.cellsOf t ∨ (n = 0 ∧ c = 0)) ∧
      (if op then c ≤ c' ∧ off + c' * P.cellsOf t ≤ l.top else c' = c)) ∨ (n = 0 ∧ c = 0 ∧ op = false ∧ ∃ a, cs = [.slice (some a) 0 0])
  | .L0, cs => cs = [.slice none 0 0]
  | .M b, cs => ∃ l, φ b = some l ∧ cs = [.map (some l.cb)]
  | .M0, cs => cs = [.map none]
  | .Fn f a c, cs => ∃ xs ys, cs = [.func f (List.toArray xs) (List.toArray ys)] ∧ relVs P φ a xs ∧ relVs P φ c ys
  | .Fn0, cs => cs = [.nilFunc]
  | .If t v, cs => ∃ x ds, cs = [.iface t x] ∧ relC P φ v ds ∧ x = pack v ds
  | .If0, cs => cs = [.nilIface]
  | .St t vs, cs => ∃ fs, fieldsOf P t = some fs ∧ vs.length = fs.length ∧ cs.length = P.cellsOf t ∧ relF P φ vs fs 0 cs
  | .Ar t vs, cs => relA P φ (P.cellsOf t) vs cs
  | .T _, _ => False
def relF (P : Program) (φ : Phi) : List V → List Field → Nat → List Value → Prop
  | [], _, _, cs => cs = []
  | v :: vs, fs, off, cs => ∃ f gs c1 c2, fs = f :: gs ∧ f.offset = off ∧ cs = c1 ++ c2 ∧ List.length c1 = P.cellsOf f.type ∧ relC P φ v c1 ∧ relF P φ vs gs (off + P.cellsOf f.type) c2
def relA (P : Program) (φ : Phi) (n : Nat) : List V → List Value → Prop
  | [], cs => cs = []
  | v :: vs, cs => ∃ c1 c2, cs = c1 ++ c2 ∧ List.length c1 = n ∧ relC P φ v c1 ∧ relA P φ n vs c2
def relVs (P : Program) (φ : Phi) : List V → List Value → Prop
  | [], xs => xs = []
  | v :: vs, xs => ∃ x ys, xs = x :: ys ∧ ((∃ ds, relC P φ v ds ∧ x = pack v ds) ∨ relT P φ v x) ∧ relVs P φ vs ys
def relT (P : Program) (φ : Phi) : V → Value → Prop
  | .T vs, x => ∃ xs, x = .tuple (List.toArray xs) ∧ relVs P φ vs xs
  | _, _ => False
end

def relV (P : Program) (φ : Phi) (v : V) (x : Value) : Prop := (∃ cs, relC P φ v cs ∧ x = pack v cs) ∨ relT P φ v x

theorem relVs_nil {P : Program} {φ : Phi} {xs : List Value} : relVs P φ [] xs ↔ xs = [] := by simp [relVs]
theorem relVs_cons {P : Program} {φ : Phi} {v : V} {vs : List V} {xs : List Value} : relVs P φ (v :: vs) xs ↔ ∃ x ys, xs = x :: ys ∧ relV P φ v x ∧ relVs P φ vs ys := by
  simp only [relVs, relV]

mutual
theorem relC_mono {P : Program} {φ ψ : Phi} (h : φ.le ψ) : ∀ {v : V} {cs : List Value}, relC P φ v cs → relC P ψ v cs
  | .B _, _, r | .I _ _, _, r | .F _ _, _, r | .X _ _ _, _, r | .S _, _, r | .P0, _, r | .L0, _, r | .M0, _, r | .Fn0, _, r | .If0, _, r => by simpa [relC] using r
  | .P b p, cs, r => by simp only [relC] at r ⊢; obtain ⟨l, e, r⟩ := r; exact ⟨l, h _ _ e, r⟩
  | .M b, cs, r => by simp only [relC] at r ⊢; obtain ⟨l, e, r⟩ := r; exact ⟨l, h _ _ e, r⟩
  | .L b p t s n c op, cs, r => by simp only [relC] at r ⊢; exact r.imp (fun ⟨l, off, c', e, r⟩ => ⟨l, off, c', h _ _ e, r⟩) fun r => r
  | .Fn f a c, cs, r => by simp only [relC] at r ⊢; obtain ⟨xs, ys, e, r1, r2⟩ := r; exact ⟨xs, ys, e, relVs_mono h r1, relVs_mono h r2⟩
  | .If t v, cs, r => by simp only [relC] at r ⊢; obtain ⟨x, ds, e, r1, r2⟩ := r; exact ⟨x, ds, e, relC_mono h r1, r2⟩
  | .St t vs, cs, r => by simp only [relC] at r ⊢; obtain ⟨fs, e, e1, e2, r1⟩ := r; exact ⟨fs, e, e1, e2, relF_mono h r1⟩
  | .Ar t vs, cs, r => by simp only [relC] at r ⊢; exact relA_mono h r
  | .T vs, cs, r => by simp only [relC] at r
theorem relF_mono {P : Program} {φ ψ : Phi} (h : φ.le ψ) : ∀ {vs : List V} {fs : List Field} {off : Nat} {cs : List Value}, relF P φ vs fs off cs → relF P ψ vs fs off cs
  | [], _, _, _, r => by simpa [relF] using r
  | v :: vs, _, _, _, r => by
    simp only [relF] at r ⊢
    obtain ⟨f, gs, c1, c2, e1, e2, e3, e4, r1, r2⟩ := r
    exact ⟨f, gs, c1, c2, e1, e2, e3, e4, relC_mono h r1, relF_mono h r2⟩
theorem relA_mono {P : Program} {φ ψ : Phi} (h : φ.le ψ) : ∀ {n : Nat} {vs : List V} {cs : List Value}, relA P φ n vs cs → relA P ψ n vs cs
  | _, [], _, r => by simpa [relA] using r
  | _, v :: vs, _, r => by
    simp only [relA] at r ⊢
    obtain ⟨c1, c2, e1, e2, r1, r2⟩ := r
    exact ⟨c1, c2, e1, e2, relC_mono h r1, relA_mono h r2⟩
theorem relVs_mono {P : Program} {φ ψ : Phi} (h : φ.le ψ) : ∀ {vs : List V} {xs : List Value}, relVs P φ vs xs → relVs P ψ vs xs
  | [], _, r => by simpa [relVs] using r
  | v :: vs, _, r => by
    simp only [relVs] at r ⊢
    obtain ⟨x, ys, e1, r1, r2⟩ := r
    exact ⟨x, ys, e1, r1.imp (fun ⟨ds, a, b⟩ => ⟨ds, relC_mono h a, b⟩) (relT_mono h), relVs_mono h r2⟩
theorem relT_mono {P : Program} {φ ψ : Phi} (h : φ.le ψ) : ∀ {v : V} {x : Value}, relT P φ v x → relT P ψ v x
  | .T vs, _, r => by simp only [relT] at r ⊢; obtain ⟨xs, e, r⟩ := r; exact ⟨xs, e, relVs_mono h r⟩
  | .B _, _, r | .I _ _, _, r | .F _ _, _, r | .X _ _ _, _, r | .S _, _, r | .P _ _, _, r | .P0, _, r | .L .., _, r | .L0, _, r | .M _, _, r | .M0, _, r | .Fn .., _, r | .Fn0, _, r | .If .., _, r | .If0, _, r
  | .St .., _, r | .Ar .., _, r => by simp only [relT] at r
end

theorem relV_mono {P : Program} {φ ψ : Phi} (h : φ.le ψ) {v : V} {x : Value} : relV P φ v x → relV P ψ v x := fun r => r.imp (fun ⟨cs, r, e⟩ => ⟨cs, relC_mono h r, e⟩) (relT_mono h)

/-- All cells are cells. -/
theorem one_append {a b : List Value} (ha : ∀ x ∈ a, x.oneCell' = true) (hb : ∀ x ∈ b, x.oneCell' = true) : ∀ x ∈ a ++ b, x.oneCell' = true := fun x hx => (List.mem_append.1 hx).elim (ha x) (hb x)
mutual
theorem relC_one {P : Program} {φ : Phi} : ∀ {v : V} {cs : List Value}, relC P φ v cs → ∀ x ∈ cs, x.oneCell' = true
  | .B _, _, r | .I _ _, _, r | .F _ _, _, r | .X _ _ _, _, r | .S _, _, r | .P0, _, r | .L0, _, r | .M0, _, r | .Fn0, _, r | .If0, _, r => by simp only [relC] at r; subst r; simp [Value.oneCell']
  | .P b p, cs, r => by simp only [relC] at r; obtain ⟨l, e, rfl⟩ := r; simp [Value.oneCell']
  | .M b, cs, r => by simp only [relC] at r; obtain ⟨l, e, rfl⟩ := r; simp [Value.oneCell']
  | .L b p t s n c op, cs, r => by simp only [relC] at r; rcases r with ⟨l, off, c', e, rfl, _⟩ | ⟨_, _, _, a, rfl⟩ <;> simp [Value.oneCell']
  | .Fn f a c, cs, r => by simp only [relC] at r; obtain ⟨xs, ys, rfl, _⟩ := r; simp [Value.oneCell']
  | .If t v, cs, r => by simp only [relC] at r; obtain ⟨x, ds, rfl, _⟩ := r; simp [Value.oneCell']
  | .St t vs, cs, r => by simp only [relC] at r; obtain ⟨fs, _, _, _, r1⟩ := r; exact relF_one r1
  | .Ar t vs, cs, r => by simp only [relC] at r; exact relA_one r
  | .T vs, cs, r => by simp only [relC] at r
theorem relF_one {P : Program} {φ : Phi} : ∀ {vs : List V} {fs : List Field} {off : Nat} {cs : List Value}, relF P φ vs fs off cs → ∀ x ∈ cs, x.oneCell' = true
  | [], _, _, _, r => by simp only [relF] at r; simp [r]
  | v :: vs, _, _, _, r => by
    simp only [relF] at r
    obtain ⟨f, gs, c1, c2, e1, e2, rfl, e4, r1, r2⟩ := r
    exact one_append (relC_one r1) (relF_one r2)
theorem relA_one {P : Program} {φ : Phi} : ∀ {n : Nat} {vs : List V} {cs : List Value}, relA P φ n vs cs → ∀ x ∈ cs, x.oneCell' = true
  | _, [], _, r => by simp only [relA] at r; simp [r]
  | _, v :: vs, _, r => by
    simp only [relA] at r
    obtain ⟨c1, c2, rfl, e2, r1, r2⟩ := r
    exact one_append (relC_one r1) (relA_one r2)
end

/-- A leaf is one cell. -/
theorem relC_leaf {P : Program} {φ : Phi} {v : V} {cs : List Value} (hl : v.leaf = true) (r : relC P φ v cs) : ∃ x, cs = [x] ∧ x.oneCell' = true := by
  cases v <;> simp [V.leaf] at hl <;> simp only [relC] at r
  case P => obtain ⟨l, e, r⟩ := r; exact ⟨_, r, rfl⟩
  case M => obtain ⟨l, e, r⟩ := r; exact ⟨_, r, rfl⟩
  case L => rcases r with ⟨l, off, c', e, r, _⟩ | ⟨_, _, _, a, r⟩ <;> exact ⟨_, r, rfl⟩
  case Fn => obtain ⟨xs, ys, e, _⟩ := r; exact ⟨_, e, rfl⟩
  case If => obtain ⟨x, ds, e, _⟩ := r; exact ⟨_, e, rfl⟩
  all_goals exact ⟨_, r, rfl⟩

theorem pack_leaf {v : V} {x : Value} (hl : v.leaf = true) : pack v [x] = x := by
  cases v <;> simp [V.leaf] at hl <;> rfl

/-- A struct's part. -/
theorem relF_get {P : Program} {φ : Phi} : ∀ {vs : List V} {fs : List Field} {off : Nat} {cs : List Value} {i : Nat} {u : V}, relF P φ vs fs off cs → vs[i]? = some u →
    ∃ f pre mid post, fs[i]? = some f ∧ cs = pre ++ mid ++ post ∧ f.offset = off + pre.length ∧ mid.length = P.cellsOf f.type ∧ relC P φ u mid ∧
      ∀ x mid', relC P φ x mid' → mid'.length = mid.length → relF P φ (vs.set i x) fs off (pre ++ mid' ++ post)
  | [], _, _, _, _, _, _, h => by simp at h
  | v :: vs, fs, off, cs, 0, u, r, h => by
    simp only [relF] at r
    obtain ⟨f, gs, c1, c2, e1, e2, e3, e4, r1, r2⟩ := r
    simp at h; subst h
    refine ⟨f, [], c1, c2, by simp [e1], by simp [e3], by simp [e2], e4, r1, fun x mid' rx hl => ?_⟩
    simp only [List.set_cons_zero, relF, List.nil_append]
    exact ⟨f, gs, mid', c2, e1, e2, rfl, by omega, rx, r2⟩
  | v :: vs, fs, off, cs, i + 1, u, r, h => by
    simp only [relF] at r
    obtain ⟨f, gs, c1, c2, e1, e2, e3, e4, r1, r2⟩ := r
    simp at h
    obtain ⟨f', pre, mid, post, g1, g2, g3, g4, g5, g6⟩ := relF_get r2 h
    refine ⟨f', c1 ++ pre, mid, post, by simp [e1, g1], by simp [e3, g2], by simp [g3, e4]; omega, g4, g5, fun x mid' rx hl => ?_⟩
    simp only [List.set_cons_succ, relF]
    exact ⟨f, gs, c1, pre ++ mid' ++ post, e1, e2, by simp, e4, r1, g6 x mid' rx hl⟩

theorem relA_get {P : Program} {φ : Phi} {n : Nat} : ∀ {vs : List V} {cs : List Value} {i : Nat} {u : V}, relA P φ n vs cs → vs[i]? = some u →
    ∃ pre mid post, cs = pre ++ mid ++ post ∧ pre.length = i * n ∧ mid.length = n ∧ relC P φ u mid ∧
      ∀ x mid', relC P φ x mid' → mid'.length = n → relA P φ n (vs.set i x) (pre ++ mid' ++ post)
  | [], _, _, _, _, h => by simp at h
  | v :: vs, cs, 0, u, r, h => by
    simp only [relA] at r
    obtain ⟨c1, c2, e1, e2, r1, r2⟩ := r
    simp at h; subst h
    refine ⟨[], c1, c2, by simp [e1], by simp, e2, r1, fun x mid' rx hl => ?_⟩
    simp only [List.set_cons_zero, relA, List.nil_append]
    exact ⟨mid', c2, rfl, hl, rx, r2⟩
  | v :: vs, cs, i + 1, u, r, h => by
    simp only [relA] at r
    obtain ⟨c1, c2, e1, e2, r1, r2⟩ := r
    simp at h
    obtain ⟨pre, mid, post, g1, g2, g3, g4, g5⟩ := relA_get r2 h
    refine ⟨c1 ++ pre, mid, post, by simp [e1, g1], by simp [g2, e2, Nat.succ_mul]; omega, g3, g4, fun x mid' rx hl => ?_⟩
    simp only [List.set_cons_succ, relA]
    exact ⟨c1, pre ++ mid' ++ post, by simp, e2, r1, g5 x mid' rx hl⟩

theorem relA_length {P : Program} {φ : Phi} {n : Nat} : ∀ {vs : List V} {cs : List Value}, relA P φ n vs cs → cs.length = vs.length * n
  | [], _, r => by simp only [relA] at r; simp [r]
  | v :: vs, cs, r => by
    simp only [relA] at r
    obtain ⟨c1, c2, e1, e2, r1, r2⟩ := r
    have := relA_length r2
    simp [e1, e2, this, Nat.succ_mul]; omega

theorem relA_append {P : Program} {φ : Phi} {n : Nat} : ∀ {vs us : List V} {cs ds : List Value}, relA P φ n vs cs → relA P φ n us ds → relA P φ n (vs ++ us) (cs ++ ds)
  | [], us, cs, ds, r, r' => by simp only [relA] at r; subst r; simpa using r'
  | v :: vs, us, cs, ds, r, r' => by
    simp only [relA, List.cons_append] at r ⊢
    obtain ⟨c1, c2, e1, e2, r1, r2⟩ := r
    exact ⟨c1, c2 ++ ds, by simp [e1], e2, r1, relA_append r2 r'⟩

theorem relA_take {P : Program} {φ : Phi} {n : Nat} : ∀ {vs : List V} {cs : List Value} (i : Nat), relA P φ n vs cs → relA P φ n (vs.take i) (cs.take (i * n)) ∧ relA P φ n (vs.drop i) (cs.drop (i * n))
  | vs, cs, 0, r => by simp [relA, r]
  | [], cs, i + 1, r => by simp only [relA] at r; subst r; simp [relA]
  | v :: vs, cs, i + 1, r => by
    simp only [relA] at r
    obtain ⟨c1, c2, e1, e2, r1, r2⟩ := r
    obtain ⟨t, d⟩ := relA_take i r2
    subst e1
    have hm : (i + 1) * n = c1.length + i * n := by rw [Nat.succ_mul]; omega
    constructor
    · simp only [List.take_succ_cons, relA]
      refine ⟨c1, c2.take (i * n), ?_, e2, r1, t⟩
      rw [hm, List.take_length_add_append]
    · simp only [List.drop_succ_cons]
      rw [hm, List.drop_length_add_append]
      exact d

theorem V.at_fd {t i : Nat} {p : List Step} {v u : V} (h : V.at (.fd t i :: p) v = some u) : ∃ vs, v = .St t vs := by
  cases v with
  | St t' vs =>
    simp only [V.at] at h
    by_cases ht : t = t'
    · exact ⟨vs, by rw [ht]⟩
    · rw [if_neg ht] at h; cases h
  | _ => simp [V.at] at h
theorem V.at_ix {t i : Nat} {p : List Step} {v u : V} (h : V.at (.ix t i :: p) v = some u) : ∃ vs, v = .Ar t vs := by
  cases v with
  | Ar t' vs =>
    simp only [V.at] at h
    by_cases ht : t = t'
    · exact ⟨vs, by rw [ht]⟩
    · rw [if_neg ht] at h; cases h
  | _ => simp [V.at] at h

/-- A part at a path. -/
theorem relC_at {P : Program} {φ : Phi} : ∀ (p : List Step) {v u : V} {cs : List Value}, relC P φ v cs → V.at p v = some u →
    ∃ pre mid post, cs = pre ++ mid ++ post ∧ pre.length = offs P p ∧ relC P φ u mid ∧
      ∀ x mid' v', relC P φ x mid' → mid'.length = mid.length → V.put p v x = some v' → relC P φ v' (pre ++ mid' ++ post)
  | [], v, u, cs, r, h => by
    simp only [V.at, Option.some.injEq] at h
    subst h
    refine ⟨[], cs, [], by simp, by simp [offs], r, fun x mid' v' rx hl hp => ?_⟩
    simp only [V.put, Option.some.injEq] at hp
    subst hp
    simpa using rx
  | .fd t i :: p, v, u, cs, r, h => by
    obtain ⟨vs, rfl⟩ := V.at_fd h
    · simp only [V.at, if_true] at h
      simp only [relC] at r
      obtain ⟨fs, e1, e2, e3, r1⟩ := r
      cases hi : vs[i]? with
      | none => simp [hi] at h
      | some w =>
        simp only [hi, Option.bind_some] at h
        obtain ⟨f, pre, mid, post, g1, g2, g3, g4, g5, g6⟩ := relF_get r1 hi
        obtain ⟨pre', mid', post', k1, k2, k3, k4⟩ := relC_at p g5 h
        refine ⟨pre ++ pre', mid', post' ++ post, by simp [g2, k1], ?_, k3, fun x m v' rx hl hp => ?_⟩
        · simp only [offs, offOf, e1, g1, Option.map_some, Option.getD_some, List.length_append, k2]; omega
        · simp only [V.put, if_true, hi, Option.bind_some] at hp
          cases hq : V.put p w x with
          | none => simp [hq] at hp
          | some w' =>
            simp only [hq, Option.map_some, Option.some.injEq] at hp
            subst hp
            have hr := k4 x m w' rx hl hq
            have hlen : (pre' ++ m ++ post').length = mid.length := by simp [k1, hl]
            have := g6 w' (pre' ++ m ++ post') hr hlen
            simp only [relC]
            refine ⟨fs, e1, by simpa using e2, ?_, ?_⟩
            · rw [← e3, g2, k1]; simp [hl]
            · simpa [List.append_assoc] using this
  | .ix t j :: p, v, u, cs, r, h => by
    obtain ⟨vs, rfl⟩ := V.at_ix h
    · simp only [V.at, if_true] at h
      simp only [relC] at r
      cases hi : vs[j]? with
      | none => simp [hi] at h
      | some w =>
        simp only [hi, Option.bind_some] at h
        obtain ⟨pre, mid, post, g2, g3, g4, g5, g6⟩ := relA_get r hi
        obtain ⟨pre', mid', post', k1, k2, k3, k4⟩ := relC_at p g5 h
        refine ⟨pre ++ pre', mid', post' ++ post, by simp [g2, k1], ?_, k3, fun x m v' rx hl hp => ?_⟩
        · simp only [offs, offOf, List.length_append, k2]; omega
        · simp only [V.put, if_true, hi, Option.bind_some] at hp
          cases hq : V.put p w x with
          | none => simp [hq] at hp
          | some w' =>
            simp only [hq, Option.map_some, Option.some.injEq] at hp
            subst hp
            have hr := k4 x m w' rx hl hq
            have hlen : (pre' ++ m ++ post').length = P.cellsOf t := by rw [← g4, k1]; simp [hl]
            have := g6 w' (pre' ++ m ++ post') hr hlen
            simp only [relC]
            simpa [List.append_assoc] using this

/-! Types' makes. -/
theorem kind_size {P : Program} {φ : Phi} {t : TypeId} {k : LK} {v : V} {cs : List Value} (hk : kind P t = some k) (ho : LK.ok k v = true) (r : relC P φ v cs) :
    cs.length = P.cellsOf t := by
  unfold kind at hk
  split at hk
  · dsimp only at hk
    split at hk
    · split at hk
      · rename_i hc
        simp only [Option.some.injEq] at hk
        subst hk
        cases v <;> simp [LK.ok] at ho
        subst ho
        simp only [relC] at r
        obtain ⟨fs, _, _, e, _⟩ := r
        simp at hc
        rw [e, hc.1.2]
      · simp at hk
    · simp at hk
  · split at hk
    · rename_i hc
      simp only [Option.some.injEq] at hk
      subst hk
      cases v <;> simp [LK.ok] at ho
      obtain ⟨rfl, hn⟩ := ho
      simp only [relC] at r
      rw [relA_length r, hn]
      simp at hc; exact hc.1.symm
    · simp at hk
  · simp at hk
  · simp at hk
  · split at hk
    · rename_i hc
      simp only [Option.some.injEq] at hk
      subst hk
      simp [LK.ok] at ho
      obtain ⟨x, e, _⟩ := relC_leaf ho r
      rw [e]; simp at hc; exact hc.symm
    · simp at hk
  · simp at hk

end Go.Proofs.YtnnebakkcdclmaaGreat.AM
