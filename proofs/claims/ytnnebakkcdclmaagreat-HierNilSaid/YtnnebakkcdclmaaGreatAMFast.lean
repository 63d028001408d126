/-
  Proved here, for every program: a part of the soundness of an abstract machine against the model: means of the machine for the kernel. Conditions: none.
-/
import Derived.Test.YtnnebakkcdclmaaGreatAMRel
/-
  Means of the machine for the kernel: trees by numbers, parts of values, numbers, by recursors alone.
-/
namespace Go.Proofs.YtnnebakkcdclmaaGreat.AM

/-- By a truth, without more ado. -/
noncomputable def bi {α : Type} (b : Bool) (x y : α) : α := @Bool.rec (fun _ => α) y x b

theorem bi_eq {α : Type} (b : Bool) (x y : α) : bi b x y = if b = true then x else y := by cases b <;> rfl

structure Bx (α : Type) where
  out : α

/-- Eight of a kind. -/
structure Pg (α : Type) where
  a0 : α
  a1 : α
  a2 : α
  a3 : α
  a4 : α
  a5 : α
  a6 : α
  a7 : α

noncomputable def prj {α : Type} (n : Nat) : Bx (Pg α → α) :=
  match n with
  | 0 => ⟨fun p => p.a0⟩
  | 1 => ⟨fun p => p.a1⟩
  | 2 => ⟨fun p => p.a2⟩
  | 3 => ⟨fun p => p.a3⟩
  | 4 => ⟨fun p => p.a4⟩
  | 5 => ⟨fun p => p.a5⟩
  | 6 => ⟨fun p => p.a6⟩
  | _ => ⟨fun p => p.a7⟩

noncomputable def md {α : Type} (n : Nat) : Bx ((α → α) → Pg α → Pg α) :=
  match n with
  | 0 => ⟨fun f p => @Pg.rec α (fun _ => Pg α) (fun x0 x1 x2 x3 x4 x5 x6 x7 => ⟨f x0, x1, x2, x3, x4, x5, x6, x7⟩) p⟩
  | 1 => ⟨fun f p => @Pg.rec α (fun _ => Pg α) (fun x0 x1 x2 x3 x4 x5 x6 x7 => ⟨x0, f x1, x2, x3, x4, x5, x6, x7⟩) p⟩
  | 2 => ⟨fun f p => @Pg.rec α (fun _ => Pg α) (fun x0 x1 x2 x3 x4 x5 x6 x7 => ⟨x0, x1, f x2, x3, x4, x5, x6, x7⟩) p⟩
  | 3 => ⟨fun f p => @Pg.rec α (fun _ => Pg α) (fun x0 x1 x2 x3 x4 x5 x6 x7 => ⟨x0, x1, x2, f x3, x4, x5, x6, x7⟩) p⟩
  | 4 => ⟨fun f p => @Pg.rec α (fun _ => Pg α) (fun x0 x1 x2 x3 x4 x5 x6 x7 => ⟨x0, x1, x2, x3, f x4, x5, x6, x7⟩) p⟩
  | 5 => ⟨fun f p => @Pg.rec α (fun _ => Pg α) (fun x0 x1 x2 x3 x4 x5 x6 x7 => ⟨x0, x1, x2, x3, x4, f x5, x6, x7⟩) p⟩
  | 6 => ⟨fun f p => @Pg.rec α (fun _ => Pg α) (fun x0 x1 x2 x3 x4 x5 x6 x7 => ⟨x0, x1, x2, x3, x4, x5, f x6, x7⟩) p⟩
  | _ => ⟨fun f p => @Pg.rec α (fun _ => Pg α) (fun x0 x1 x2 x3 x4 x5 x6 x7 => ⟨x0, x1, x2, x3, x4, x5, x6, f x7⟩) p⟩

theorem prj_md {α : Type} (n m : Nat) (hn : n < 8) (hm : m < 8) (f : α → α) (p : Pg α) : (prj n).out ((md m).out f p) = if n = m then f ((prj n).out p) else (prj n).out p := by
  obtain ⟨x0, x1, x2, x3, x4, x5, x6, x7⟩ := p
  rcases m with _ | _ | _ | _ | _ | _ | _ | _ | m
  all_goals first
    | (exfalso; omega)
    | (rcases n with _ | _ | _ | _ | _ | _ | _ | _ | n
       all_goals first
         | rfl
         | (exfalso; omega))

/-- 512 values. -/
abbrev PE := Pg (Pg (Pg V))

noncomputable def bcomp {α β γ : Type} (f : Bx (α → β)) (g : Bx (β → γ)) : Bx (α → γ) :=
  match f with
  | ⟨f⟩ => match g with
    | ⟨g⟩ => ⟨fun x => g (f x)⟩

theorem bcomp_out {α β γ : Type} (f : Bx (α → β)) (g : Bx (β → γ)) (x : α) : (bcomp f g).out x = g.out (f.out x) := rfl

noncomputable def selB (t : Nat) : Bx (PE → V) :=
  match Nat.ble (Nat.succ t) 512 with
  | true => bcomp (prj (Nat.div t 64)) (bcomp (prj (Nat.mod (Nat.div t 8) 8)) (prj (Nat.mod t 8)))
  | false => ⟨fun _ => dd⟩

noncomputable def bput (a : Bx ((Pg (Pg V) → Pg (Pg V)) → PE → PE)) (b : Bx ((Pg V → Pg V) → Pg (Pg V) → Pg (Pg V))) (c : Bx ((V → V) → Pg V → Pg V)) : Bx (PE → V → PE) :=
  match a with
  | ⟨a⟩ => match b with
    | ⟨b⟩ => match c with
      | ⟨c⟩ => ⟨fun E v => a (b (c fun _ => v)) E⟩

noncomputable def putB (t : Nat) : Bx (PE → V → PE) :=
  match Nat.ble (Nat.succ t) 512 with
  | true => bput (md (Nat.div t 64)) (md (Nat.mod (Nat.div t 8) 8)) (md (Nat.mod t 8))
  | false => ⟨fun E _ => E⟩

noncomputable def PE.get (E : PE) (t : Nat) : V := (selB t).out E

theorem PE.get_eq (E : PE) (t : Nat) : E.get t = if t < 512 then (prj (t % 8)).out ((prj (t / 8 % 8)).out ((prj (t / 64)).out E)) else dd := by
  unfold PE.get selB
  cases h : Nat.ble (Nat.succ t) 512 with
  | true =>
    rw [if_pos (show t < 512 from Nat.le_of_ble_eq_true h)]
    rfl
  | false =>
    rw [if_neg (fun h1 => by rw [Nat.ble_eq_true_of_le h1] at h; cases h)]

theorem PE.get_put (E : PE) (d t : Nat) (v : V) (hd : d < 512) : PE.get ((putB d).out E v) t = if t = d then v else E.get t := by
  rw [PE.get_eq, PE.get_eq]
  unfold putB
  rw [Nat.ble_eq_true_of_le hd]
  show (if t < 512 then (prj (t % 8)).out ((prj (t / 8 % 8)).out ((prj (t / 64)).out ((md (d / 64)).out ((md (d / 8 % 8)).out ((md (d % 8)).out fun _ => v)) E))) else dd) = _
  by_cases ht : t < 512
  · rw [if_pos ht, if_pos ht, prj_md _ _ (by omega) (by omega)]
    by_cases h1 : t / 64 = d / 64
    · rw [if_pos h1, prj_md _ _ (by omega) (by omega)]
      by_cases h2 : t / 8 % 8 = d / 8 % 8
      · rw [if_pos h2, prj_md _ _ (by omega) (by omega)]
        by_cases h3 : t % 8 = d % 8
        · rw [if_pos h3, if_pos (by omega)]
        · rw [if_neg h3, if_neg (fun e => h3 (by rw [e]))]
      · rw [if_neg h2, if_neg (fun e => h2 (by rw [e]))]
    · rw [if_neg h1, if_neg (fun e => h1 (by rw [e]))]
  · rw [if_neg ht, if_neg ht, if_neg (by omega)]

noncomputable def PE.nil : PE :=
  let a : Pg V := ⟨dd, dd, dd, dd, dd, dd, dd, dd⟩
  let b : Pg (Pg V) := ⟨a, a, a, a, a, a, a, a⟩
  ⟨b, b, b, b, b, b, b, b⟩

theorem PE.get_nil (t : Nat) : PE.nil.get t = dd := by
  rw [PE.get_eq]
  split
  · rename_i h
    have h1 : t % 8 < 8 := by omega
    have h2 : t / 8 % 8 < 8 := by omega
    have h3 : t / 64 < 8 := by omega
    revert h1 h2 h3
    generalize t % 8 = a
    generalize t / 8 % 8 = b
    generalize t / 64 = c
    intro h1 h2 h3
    have k3 : (prj c).out PE.nil = PE.nil.a0 := by rcases c with _ | _ | _ | _ | _ | _ | _ | _ | c <;> rfl
    have k2 : (prj b).out PE.nil.a0 = PE.nil.a0.a0 := by rcases b with _ | _ | _ | _ | _ | _ | _ | _ | b <;> rfl
    rw [k3, k2]
    rcases a with _ | _ | _ | _ | _ | _ | _ | _ | a <;> rfl
  · rfl

noncomputable def PE.upd (E : PE) (nt : Nat) (d : Option Nat) (v : V) : PE :=
  match d with
  | none => E
  | some d => bi (Nat.ble (Nat.succ d) nt) ((putB d).out E v) E

theorem PE.get_upd (E : PE) (nt : Nat) (hnt : nt ≤ 512) (d : Option Nat) (v : V) : (E.upd nt d v).get = Env.upd E.get nt d v := by
  unfold PE.upd Env.upd
  cases d with
  | none => rfl
  | some d =>
    simp only [bi_eq, Nat.ble_eq, Nat.succ_le_iff]
    by_cases h : d < nt
    · simp only [h, if_true]
      funext t
      exact PE.get_put _ _ _ _ (by omega)
    · simp only [h, if_false]

noncomputable def PE.ofs (vs : List V) : Nat → PE → PE :=
  @List.rec V (fun _ => Nat → PE → PE) (fun _ E => E) (fun v _ ih i E => ih (Nat.succ i) ((putB i).out E v)) vs

theorem PE.get_ofs : ∀ (vs : List V) (i : Nat) (E : PE) (t : Nat), i + vs.length ≤ 512 → (PE.ofs vs i E).get t = if i ≤ t ∧ t < i + vs.length then vs.getD (t - i) dd else E.get t
  | [], i, E, t, _ => by
    show E.get t = _
    rw [if_neg (by simp)]
  | v :: vs, i, E, t, hl => by
    simp only [List.length_cons] at hl
    show (PE.ofs vs (i + 1) ((putB i).out E v)).get t = _
    rw [PE.get_ofs vs (i + 1) _ _ (by omega), PE.get_put _ _ _ _ (by omega)]
    by_cases h : i ≤ t
    · by_cases h1 : t = i
      · subst h1
        rw [if_neg (by omega), if_pos rfl, if_pos ⟨h, by simp only [List.length_cons]; omega⟩]
        simp
      · have : t - i = (t - (i + 1)) + 1 := by omega
        rw [this, List.getD_cons_succ, if_neg h1]
        by_cases h2 : t < i + (v :: vs).length
        · rw [if_pos ⟨by omega, by simp only [List.length_cons] at h2; omega⟩, if_pos ⟨h, h2⟩]
        · rw [if_neg (fun x => h2 (by simp only [List.length_cons]; omega)), if_neg (fun x => h2 x.2)]
    · rw [if_neg (fun x => h (by omega)), if_neg (by omega), if_neg (fun x => h x.1)]

theorem PE.get_args (vs : List V) (hl : vs.length ≤ 512) : (PE.ofs vs 0 .nil).get = fun t => vs.getD t dd := by
  funext t
  rw [PE.get_ofs _ _ _ _ (by omega)]
  simp only [Nat.zero_le, Nat.zero_add, true_and, Nat.sub_zero, PE.get_nil]
  split
  · rfl
  · rename_i h
    rw [List.getD_eq_getElem?_getD, List.getElem?_eq_none (by omega)]
    rfl

/-! Memory, and parts of values, so. -/
noncomputable def qtget (t : Tr) : Nat → Option Blk :=
  @Tr.rec (fun _ => Nat → Option Blk) (fun _ => none) (fun _ x _ gl gr n => bi (Nat.beq n 0) x (bi (Nat.beq (Nat.mod n 2) 1) (gl (Nat.div n 2)) (gr (Nat.sub (Nat.div n 2) 1)))) t

noncomputable def qtsetb (ih : Tr → Nat → Option Blk → Tr) (l : Tr) (y : Option Blk) (r : Tr) (n : Nat) (x : Option Blk) : Tr :=
  bi (Nat.beq n 0) (.node l x r) (bi (Nat.beq (Nat.mod n 2) 1) (.node (ih l (Nat.div n 2) x) y r) (.node l y (ih r (Nat.sub (Nat.div n 2) 1) x)))

noncomputable def qtset (f : Nat) : Tr → Nat → Option Blk → Tr :=
  @Nat.rec (fun _ => Tr → Nat → Option Blk → Tr) (fun t _ x => @Tr.rec (fun _ => Tr) (.node .nil x .nil) (fun l _ r _ _ => .node l x r) t)
    (fun _ ih t n x => @Tr.rec (fun _ => Tr) (qtsetb ih .nil none .nil n x) (fun l y r _ _ => qtsetb ih l y r n x) t) f

theorem qtget_eq : ∀ (t : Tr) (n : Nat), qtget t n = t.get n
  | .nil, n => by simp only [Tr.get]; rfl
  | .node l x r, n => by
    simp only [Tr.get]
    show bi (Nat.beq n 0) x (bi (Nat.beq (n % 2) 1) (qtget l (n / 2)) (qtget r (n / 2 - 1))) = _
    simp only [bi_eq, Nat.beq_eq, qtget_eq l, qtget_eq r]

theorem qtset_eq : ∀ (f : Nat) (t : Tr) (n : Nat) (x : Option Blk), qtset f t n x = Tr.set f t n x
  | 0, .nil, n, x => by simp only [Tr.set]; rfl
  | 0, .node l y r, n, x => by simp only [Tr.set]; rfl
  | f + 1, .nil, n, x => by
    simp only [Tr.set]
    show bi (Nat.beq n 0) (Tr.node .nil x .nil) (bi (Nat.beq (n % 2) 1) (Tr.node (qtset f .nil (n / 2) x) none .nil) (Tr.node .nil none (qtset f .nil (n / 2 - 1) x))) = _
    rw [bi_eq, bi_eq, qtset_eq f, qtset_eq f]
    simp only [Nat.beq_eq]
  | f + 1, .node l y r, n, x => by
    simp only [Tr.set]
    show bi (Nat.beq n 0) (Tr.node l x r) (bi (Nat.beq (n % 2) 1) (Tr.node (qtset f l (n / 2) x) y r) (Tr.node l y (qtset f r (n / 2 - 1) x))) = _
    rw [bi_eq, bi_eq, qtset_eq f, qtset_eq f]
    simp only [Nat.beq_eq]

noncomputable def qhget (h : H) (b : Nat) : Option Blk := qtget h.tr b
noncomputable def qhput (h : H) (b : Nat) (x : Option Blk) : H := ⟨qtset b h.tr b x, h.next⟩
noncomputable def qhnew (h : H) (x : Blk) : H := ⟨qtset h.next h.tr h.next (some x), Nat.succ h.next⟩
theorem qhget_eq (h : H) (b : Nat) : qhget h b = h.get b := qtget_eq _ _
theorem qhput_eq (h : H) (b : Nat) (x : Option Blk) : qhput h b x = h.put b x := by unfold qhput H.put; rw [qtset_eq]
theorem qhnew_eq (h : H) (x : Blk) : qhnew h x = h.new x := by unfold qhnew H.new; rw [qtset_eq]

noncomputable def qlget {α : Type} (l : List α) : Nat → Option α :=
  @List.rec α (fun _ => Nat → Option α) (fun _ => none) (fun a _ ih n => @Nat.rec (fun _ => Option α) (some a) (fun m _ => ih m) n) l
noncomputable def qlset {α : Type} (l : List α) : Nat → α → List α :=
  @List.rec α (fun _ => Nat → α → List α) (fun _ _ => []) (fun a as ih n x => @Nat.rec (fun _ => List α) (x :: as) (fun m _ => a :: ih m x) n) l
theorem qlget_eq {α : Type} : ∀ (l : List α) (n : Nat), qlget l n = l[n]?
  | [], n => rfl
  | a :: as, 0 => rfl
  | a :: as, n + 1 => by
    rw [List.getElem?_cons_succ]
    exact qlget_eq as n
theorem qlset_eq {α : Type} : ∀ (l : List α) (n : Nat) (x : α), qlset l n x = l.set n x
  | [], n, x => rfl
  | a :: as, 0, x => rfl
  | a :: as, n + 1, x => by
    rw [List.set_cons_succ]
    exact congrArg (a :: ·) (qlset_eq as n x)

noncomputable def qstep (s : Step) (v : V) (go : V → Option V) : Option V :=
  match s with
  | .fd t i => match v with
    | .St t' vs => bi (Nat.beq t t') (match qlget vs i with | some u => go u | none => none) none
    | _ => none
  | .ix t i => match v with
    | .Ar t' vs => bi (Nat.beq t t') (match qlget vs i with | some u => go u | none => none) none
    | _ => none

noncomputable def qat (p : List Step) : V → Option V :=
  @List.rec Step (fun _ => V → Option V) (fun v => some v) (fun s _ ih v => qstep s v ih) p

theorem qat_eq : ∀ (p : List Step) (v : V), qat p v = V.at p v
  | [], v => by simp only [V.at]; rfl
  | s :: p, v => by
    show qstep s v (qat p) = _
    have go : ∀ o : Option V, (match o with | some u => qat p u | none => none) = o.bind (V.at p) := fun o => by cases o <;> simp [qat_eq p]
    cases s with
    | fd t i =>
      cases v <;> simp only [V.at, qstep]
      rw [bi_eq, qlget_eq, go]; simp only [Nat.beq_eq]
    | ix t i =>
      cases v <;> simp only [V.at, qstep]
      rw [bi_eq, qlget_eq, go]; simp only [Nat.beq_eq]

noncomputable def qputs (s : Step) (v : V) (go : V → Option V) : Option V :=
  match s with
  | .fd t i => match v with
    | .St t' vs => bi (Nat.beq t t') (match qlget vs i with | some u => (match go u with | some u' => some (.St t' (qlset vs i u')) | none => none) | none => none) none
    | _ => none
  | .ix t i => match v with
    | .Ar t' vs => bi (Nat.beq t t') (match qlget vs i with | some u => (match go u with | some u' => some (.Ar t' (qlset vs i u')) | none => none) | none => none) none
    | _ => none

noncomputable def qput (p : List Step) : V → V → Option V :=
  @List.rec Step (fun _ => V → V → Option V) (fun _ x => some x) (fun s _ ih v x => qputs s v fun u => ih u x) p

theorem qput_eq : ∀ (p : List Step) (v x : V), qput p v x = V.put p v x
  | [], v, x => by simp only [V.put]; rfl
  | s :: p, v, x => by
    show qputs s v (fun u => qput p u x) = _
    have go : ∀ (o : Option V) (f : V → V), (match o with | some u => (match qput p u x with | some u' => some (f u') | none => none) | none => none) = o.bind fun u => (V.put p u x).map f := fun o f => by
      cases o with
      | none => rfl
      | some u => simp only [Option.bind_some, qput_eq p]; cases V.put p u x <;> rfl
    cases s with
    | fd t i =>
      cases v <;> simp only [V.put, qputs]
      rename_i t' vs
      rw [bi_eq, qlget_eq, go (vs[i]?) fun u' => .St t' (qlset vs i u')]; simp only [Nat.beq_eq, qlset_eq]
    | ix t i =>
      cases v <;> simp only [V.put, qputs]
      rename_i t' vs
      rw [bi_eq, qlget_eq, go (vs[i]?) fun u' => .Ar t' (qlset vs i u')]; simp only [Nat.beq_eq, qlset_eq]

noncomputable def qld (k : LK) (x : V) (h : H) : Option V :=
  match x with
  | .P b p =>
    match qhget h b with
    | some (.c _ v) =>
      match qat p v with
      | some u => bi (LK.ok k u) (some u) none
      | none => none
    | _ => none
  | _ => none

theorem qld_eq (k : LK) (x : V) (h : H) : qld k x h = ld k x h := by
  unfold qld ld
  simp only [qhget_eq, qat_eq, bi_eq]
  rfl

noncomputable def qsto (k : LK) (a x : V) (h : H) : Option H :=
  match a with
  | .P b p =>
    match qhget h b with
    | some (.c bk v) =>
      match bk with
      | .ro => none
      | bk =>
        match qat p v with
        | some u =>
          bi (LK.ok k u && LK.ok k x)
            (match qput p v x with
            | some v' => some (qhput h b (some (.c bk v')))
            | none => none) none
        | none => none
    | _ => none
  | _ => none

theorem qsto_eq (k : LK) (a x : V) (h : H) : qsto k a x h = sto k a x h := by
  unfold qsto sto
  simp only [qhget_eq, qat_eq, bi_eq, qput_eq, qhput_eq]
  repeat' split
  all_goals simp_all

/-! Numbers. -/
def ik : IntKind → Nat
  | .i8 => 0 | .i16 => 1 | .i32 => 2 | .i64 => 3 | .u8 => 4 | .u16 => 5 | .u32 => 6 | .u64 => 7

theorem ik_eq (k k' : IntKind) : Nat.beq (ik k) (ik k') = true ↔ k = k' := by cases k <;> cases k' <;> decide

def lim1 : IntKind → Nat
  | .i8 => 127 | .i16 => 32767 | .i32 => 2147483647 | .i64 => 9223372036854775807 | .u8 => 255 | .u16 => 65535 | .u32 => 4294967295 | .u64 => 18446744073709551615
def lim2 : IntKind → Nat
  | .i8 => 128 | .i16 => 32768 | .i32 => 2147483648 | .i64 => 9223372036854775808 | _ => 0

noncomputable def wrapq (k : IntKind) (n : Int) : Int :=
  match n with
  | .ofNat m => bi (Nat.ble m (lim1 k)) (.ofNat m) (k.wrap (.ofNat m))
  | .negSucc m => bi (Nat.ble (Nat.succ m) (lim2 k)) (.negSucc m) (k.wrap (.negSucc m))

theorem wrap_in (k : IntKind) (n : Int) (h0 : -(lim2 k : Int) ≤ n) (h1 : n ≤ (lim1 k : Int)) : k.wrap n = n := by
  have key : ∀ (a b : Int), 0 < b → a = 2 * b → -b ≤ n → n ≤ b - 1 → (if (true && decide (n % a ≥ b)) = true then n % a - a else n % a) = n := by
    intro a b hb ha h0 h1
    subst ha
    simp only [Bool.true_and, decide_eq_true_eq, ge_iff_le]
    by_cases hn : 0 ≤ n
    · rw [Int.emod_eq_of_lt hn (by omega), if_neg (by omega)]
    · have : n % (2 * b) = n + 2 * b := by
        rw [← Int.add_emod_right, Int.emod_eq_of_lt (by omega) (by omega)]
      rw [this, if_pos (by omega)]
      omega
  have key2 : ∀ (a : Int), 0 ≤ n → n < a → n % a = n := fun a h h' => Int.emod_eq_of_lt h h'
  cases k <;> simp only [lim1, lim2] at h0 h1 <;> unfold IntKind.wrap IntKind.bits IntKind.signed
  · exact key (2 ^ 8) (2 ^ 7) (by decide) (by decide) (by omega) (by omega)
  · exact key (2 ^ 16) (2 ^ 15) (by decide) (by decide) (by omega) (by omega)
  · exact key (2 ^ 32) (2 ^ 31) (by decide) (by decide) (by omega) (by omega)
  · exact key (2 ^ 64) (2 ^ 63) (by decide) (by decide) (by omega) (by omega)
  · exact key2 (2 ^ 8) (by omega) (by omega)
  · exact key2 (2 ^ 16) (by omega) (by omega)
  · exact key2 (2 ^ 32) (by omega) (by omega)
  · exact key2 (2 ^ 64) (by omega) (by omega)

theorem wrapq_eq (k : IntKind) (n : Int) : wrapq k n = k.wrap n := by
  unfold wrapq
  cases n with
  | ofNat m =>
    simp only [bi_eq, Nat.ble_eq]
    split
    · rename_i h
      refine (wrap_in k _ ?_ ?_).symm
      · show -(lim2 k : Int) ≤ (m : Int); omega
      · show (m : Int) ≤ (lim1 k : Int); omega
    · rfl
  | negSucc m =>
    simp only [bi_eq, Nat.ble_eq]
    split
    · rename_i h
      refine (wrap_in k _ ?_ ?_).symm
      · rw [Int.negSucc_eq]; omega
      · rw [Int.negSucc_eq]; omega
    · rfl

noncomputable def ieq (a c : Int) : Bool :=
  match a with
  | .ofNat m => (match c with | .ofNat n => Nat.beq m n | .negSucc _ => false)
  | .negSucc m => (match c with | .ofNat _ => false | .negSucc n => Nat.beq m n)
noncomputable def ile (a c : Int) : Bool :=
  match a with
  | .ofNat m => (match c with | .ofNat n => Nat.ble m n | .negSucc _ => false)
  | .negSucc m => (match c with | .ofNat _ => true | .negSucc n => Nat.ble n m)
noncomputable def ilt (a c : Int) : Bool :=
  match a with
  | .ofNat m => (match c with | .ofNat n => Nat.ble (Nat.succ m) n | .negSucc _ => false)
  | .negSucc m => (match c with | .ofNat _ => true | .negSucc n => Nat.ble (Nat.succ n) m)

theorem ieq_iff (a c : Int) : ieq a c = true ↔ a = c := by
  cases a <;> cases c <;> simp only [ieq, Nat.beq_eq, Bool.false_eq_true, false_iff, Int.negSucc_eq, Int.ofNat_eq_natCast] <;> omega
theorem ile_iff (a c : Int) : ile a c = true ↔ a ≤ c := by
  cases a <;> cases c <;> simp only [ile, Nat.ble_eq, Bool.false_eq_true, true_iff, false_iff, Int.negSucc_eq, Int.ofNat_eq_natCast] <;> omega
theorem ilt_iff (a c : Int) : ilt a c = true ↔ a < c := by
  cases a <;> cases c <;> simp only [ilt, Nat.ble_eq, Bool.false_eq_true, true_iff, false_iff, Int.negSucc_eq, Int.ofNat_eq_natCast] <;> omega
theorem ieq_eq (a c : Int) : ieq a c = (a == c) := by rw [Bool.eq_iff_iff, ieq_iff, beq_iff_eq]
theorem ile_eq (a c : Int) : ile a c = decide (a ≤ c) := by rw [Bool.eq_iff_iff, ile_iff, decide_eq_true_eq]
theorem ilt_eq (a c : Int) : ilt a c = decide (a < c) := by rw [Bool.eq_iff_iff, ilt_iff, decide_eq_true_eq]

noncomputable def ii (f : IntKind → Int → Int → V) (x y : V) : Option V :=
  match x with
  | .I k a => (match y with | .I k' c => bi (Nat.beq (ik k) (ik k')) (some (f k a c)) none | _ => none)
  | _ => none

end Go.Proofs.YtnnebakkcdclmaaGreat.AM
