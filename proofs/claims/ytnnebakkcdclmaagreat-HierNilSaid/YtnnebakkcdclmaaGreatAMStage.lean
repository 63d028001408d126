/-
  Proved here, for every program: a part of the soundness of an abstract machine against the model: the machine staged for the kernel answers as it does itself. Conditions: none.
-/
import Derived.Test.YtnnebakkcdclmaaGreatAMFast
/-
  The machine once more, for the kernel: code is turned into functions once, each kept in a box; what is in a box is small. It answers as `evF` does.
-/
namespace Go.Proofs.YtnnebakkcdclmaaGreat.AM

abbrev R2 := V × H

noncomputable def opB (x : Operand) : Bx (PE → V) :=
  match x with
  | .tmp t => selB t
  | .const v => match constV v with | some u => ⟨fun _ => u⟩ | none => ⟨fun _ => dd⟩
  | .func f => ⟨fun _ => .Fn (.func f) [] []⟩
  | .global _ => ⟨fun _ => dd⟩

theorem opB_eq (x : Operand) (E : PE) : (opB x).out E = opv E.get x := by
  cases x with
  | tmp t => rfl
  | const v =>
    simp only [opB, opv]
    cases constV v <;> rfl
  | func f => rfl
  | global g => rfl

noncomputable def intB (op : BinOp) : Bx (V → V → Option V) :=
  match op with
  | .add => ⟨ii fun k a c => .I k (wrapq k (Int.add a c))⟩
  | .sub => ⟨ii fun k a c => .I k (wrapq k (Int.sub a c))⟩
  | .mul => ⟨ii fun k a c => .I k (wrapq k (Int.mul a c))⟩
  | .eql => ⟨ii fun _ a c => .B (ieq a c)⟩
  | .neq => ⟨ii fun _ a c => .B (not (ieq a c))⟩
  | .lss => ⟨ii fun _ a c => .B (ilt a c)⟩
  | .leq => ⟨ii fun _ a c => .B (ile a c)⟩
  | .gtr => ⟨ii fun _ a c => .B (ilt c a)⟩
  | .geq => ⟨ii fun _ a c => .B (ile c a)⟩
  | op => ⟨fun x y => ints op x y⟩

theorem ii_eq {f : IntKind → Int → Int → V} {x y : V} : ii f x y = match x, y with | .I k a, .I k' c => if k = k' then some (f k a c) else none | _, _ => none := by
  unfold ii
  cases x <;> try rfl
  cases y <;> try rfl
  simp only [bi_eq, ik_eq]

theorem intB_eq (op : BinOp) (x y : V) : (intB op).out x y = ints op x y := by
  unfold intB
  split
  all_goals first
    | rfl
    | (simp only [ii_eq]
       cases x <;> try rfl
       cases y <;> try rfl
       simp only [ints, wrapq_eq, ieq_eq, ilt_eq, ile_eq]
       try rfl)

noncomputable def binB (P : Program) (op : BinOp) (t : TypeId) : Bx (V → V → Option V) :=
  match binKind P t with
  | .ints => intB op
  | .like q => ⟨fun x y => eqs q op x y⟩
  | .nums => ⟨fun x y => nums P op t x y⟩
  | .no => ⟨fun _ _ => none⟩

theorem binB_eq (P : Program) (op : BinOp) (t : TypeId) (x y : V) : (binB P op t).out x y = bin P op t x y := by
  unfold binB bin
  cases binKind P t <;> first | rfl | exact intB_eq _ _ _

noncomputable def cnvB (P : Program) (src dst : TypeId) : Bx (V → Option V) :=
  match P.underlying src, P.underlying dst with
  | some (.int _), some (.int k) => ⟨fun x => match x with | .I _ n => some (.I k (wrapq k n)) | _ => none⟩
  | _, _ => ⟨fun x => cnv P src dst x⟩

theorem cnvB_eq (P : Program) (src dst : TypeId) (x : V) : (cnvB P src dst).out x = cnv P src dst x := by
  unfold cnvB
  split
  · rename_i h1 h2
    unfold cnv
    rw [h1, h2]
    cases x <;> simp only [wrapq_eq]
  · rfl

noncomputable def faB (P : Program) (s i : Nat) : Bx (V → Option V) :=
  match kind P s, fieldsOf P (P.underlyingId s) with
  | some (.s u), some fs =>
    match Nat.beq u (P.underlyingId s) with
    | true =>
      match fs[i]? with
      | some f => match Nat.beq (P.cellsOf f.type) 0 with
        | true => ⟨fun _ => none⟩
        | false => ⟨fun x => match x with | .P b p => some (.P b (p ++ [.fd u i])) | _ => none⟩
      | none => ⟨fun _ => none⟩
    | false => ⟨fun _ => none⟩
  | _, _ => ⟨fun _ => none⟩

theorem nbeq_t {a b : Nat} (h : Nat.beq a b = true) : a = b := by simpa using h
theorem nbeq_f {a b : Nat} (h : Nat.beq a b = false) : a ≠ b := by
  intro e; subst e; simp at h

theorem faB_eq (P : Program) (s i : Nat) (x : V) : (faB P s i).out x = fldAOf P s x i := by
  unfold faB fldAOf
  split
  · rename_i u fs h1 h2
    rw [h1, h2]
    simp only
    split
    · rename_i h3
      rw [if_pos (nbeq_t h3)]
      split
      · rename_i f h4
        rw [h4]
        simp only
        split
        · rename_i h5
          rw [if_pos (nbeq_t h5)]
        · rename_i h5
          rw [if_neg (nbeq_f h5)]
          rfl
      · rename_i h4
        rw [h4]
    · rename_i h3
      rw [if_neg (nbeq_f h3)]
  · rename_i h
    split
    · rename_i u fs h1 h2
      exact absurd h2 (by intro h2; exact h u fs h1 h2)
    · rfl

noncomputable def fldB (P : Program) (s i : Nat) : Bx (V → Option V) :=
  match kind P s with
  | some (.s u) =>
    match fieldsOf P u with
    | some fs =>
      match fs[i]? with
      | some f => match kind P f.type with
        | some k => ⟨fun x => match x with
          | .St t' vs => bi (Nat.beq u t') (match qlget vs i with | some v => bi (LK.ok k v) (some v) none | none => none) none
          | _ => none⟩
        | none => ⟨fun _ => none⟩
      | none => ⟨fun _ => none⟩
    | none => ⟨fun _ => none⟩
  | _ => ⟨fun _ => none⟩

theorem fldB_eq (P : Program) (s i : Nat) (x : V) : (fldB P s i).out x = fldOf P s x i := by
  unfold fldB fldOf
  cases kind P s with
  | none => rfl
  | some k0 =>
    cases k0 with
    | a e n => rfl
    | l => rfl
    | s u =>
      simp only
      cases fieldsOf P u with
      | none => rfl
      | some fs =>
        simp only
        cases fs[i]? with
        | none => rfl
        | some f =>
          simp only
          cases kind P f.type with
          | none => rfl
          | some k =>
            cases x <;> try rfl
            simp only [bi_eq, Nat.beq_eq, qlget_eq, fld]
            split
            · cases (_ : List V)[i]? <;> rfl
            · rfl

noncomputable def iaB (P : Program) (t : TypeId) : Bx (V → V → Option V) :=
  match P.underlying t with
  | some (.array n e) => match (P.info? e).isSome with
    | true => ⟨fun x ix => match x with
      | .P b p => (match ix with
        | .I _ j => (match j with | .ofNat m => bi (Nat.ble (Nat.succ m) n) (some (.P b (p ++ [.ix e m]))) none | .negSucc _ => none)
        | _ => none)
      | _ => none⟩
    | false => ⟨fun _ _ => none⟩
  | some (.slice e) => match (P.info? e).isSome with
    | true => ⟨fun x ix => match x with
      | .L b p t s n _ _ => (match ix with
        | .I _ j => (match j with | .ofNat m => bi (Nat.beq t e) (bi (Nat.ble (Nat.succ m) n) (some (.P b (p ++ [.ix t (Nat.add s m)]))) none) none | .negSucc _ => none)
        | _ => none)
      | _ => none⟩
    | false => ⟨fun _ _ => none⟩
  | _ => ⟨fun _ _ => none⟩

theorem iaB_eq (P : Program) (t : TypeId) (x ix : V) : (iaB P t).out x ix = idxAOf P t x ix := by
  unfold iaB idxAOf
  cases P.underlying t with
  | none => rfl
  | some d =>
  cases d <;> try rfl
  case array n e =>
    simp only
    cases (P.info? e).isSome with
    | false => rfl
    | true =>
      cases x <;> try rfl
      cases ix <;> try rfl
      rename_i b p k j
      cases j with
      | ofNat m =>
        simp only [idxA, bi_eq, Nat.ble_eq, if_true, Int.ofNat_eq_natCast, Int.toNat_natCast, Nat.succ_le_iff]
        by_cases hm : m < n
        · rw [if_pos hm, if_pos ⟨by omega, by omega⟩]
        · rw [if_neg hm, if_neg (by omega)]
      | negSucc m =>
        simp only [idxA, if_true]
        rw [if_neg (by rw [Int.negSucc_eq]; omega)]
  case slice e =>
    simp only
    cases (P.info? e).isSome with
    | false => rfl
    | true =>
      cases x <;> try rfl
      cases ix <;> try rfl
      rename_i b p t s n c o k j
      cases j with
      | ofNat m =>
        simp only [idxS, bi_eq, Nat.ble_eq, Nat.beq_eq, if_true, Int.ofNat_eq_natCast, Int.toNat_natCast, Nat.succ_le_iff]
        by_cases ht : t = e
        · by_cases hm : m < n
          · rw [if_pos ht, if_pos hm, if_pos ⟨ht, by omega, by omega⟩]
            rfl
          · rw [if_pos ht, if_neg hm, if_neg (by omega)]
        · rw [if_neg ht, if_neg (fun h => ht h.1)]
      | negSucc m =>
        simp only [idxS, if_true]
        rw [if_neg (by rw [Int.negSucc_eq]; omega)]

noncomputable def ixB (P : Program) (t : TypeId) : Bx (V → V → Option V) :=
  match P.underlying t with
  | some (.array n e) =>
    match kind P e with
    | some k => ⟨fun x ix => match x with
      | .Ar e' vs => (match ix with
        | .I _ j => (match j with
          | .ofNat m => bi (Nat.beq e e') (bi (Nat.ble (Nat.succ m) n) (bi (Nat.beq vs.length n) (match qlget vs m with | some v => bi (LK.ok k v) (some v) none | none => none) none) none) none
          | .negSucc _ => none)
        | _ => none)
      | _ => none⟩
    | none => ⟨fun _ _ => none⟩
  | some .string => ⟨fun x ix => idxStr x ix⟩
  | _ => ⟨fun _ _ => none⟩

theorem ixB_eq (P : Program) (t : TypeId) (x ix : V) : (ixB P t).out x ix = idxOf P t x ix := by
  unfold ixB idxOf
  cases P.underlying t with
  | none => rfl
  | some d =>
  cases d <;> try rfl
  case array n e =>
    simp only
    cases kind P e with
    | none => rfl
    | some k =>
      cases x <;> try rfl
      cases ix <;> try rfl
      rename_i e' vs k' j
      cases j with
      | ofNat m =>
        simp only [idxV, bi_eq, Nat.ble_eq, Nat.beq_eq, qlget_eq, Int.ofNat_eq_natCast, Int.toNat_natCast, Nat.succ_le_iff]
        by_cases he : e = e'
        · by_cases hm : m < n
          · by_cases hl : vs.length = n
            · rw [if_pos he, if_pos hm, if_pos hl, if_pos ⟨he, by omega, by omega, hl⟩]
              cases vs[m]? <;> rfl
            · rw [if_pos he, if_pos hm, if_neg hl, if_neg (fun h => hl h.2.2.2)]
          · rw [if_pos he, if_neg hm, if_neg (by omega)]
        · rw [if_neg he, if_neg (fun h => he h.1)]
      | negSucc m =>
        simp only [idxV]
        rw [if_neg (by rw [Int.negSucc_eq]; omega)]

noncomputable def lenB (P : Program) (c : Call) : Bx (PE → Option V) :=
  match c.argTypes[0]?, c.args[0]? with
  | some t, some x =>
    match P.underlying t with
    | some (.slice _) => ⟨fun E => match (opB x).out E with | .L0 => some (.I .i64 0) | .L _ _ _ _ n _ _ => some (.I .i64 n) | _ => none⟩
    | some .string => ⟨fun E => match (opB x).out E with | .S a => some (.I .i64 a.size) | _ => none⟩
    | some (.array n _) => ⟨fun _ => some (.I .i64 n)⟩
    | _ => ⟨fun _ => none⟩
  | _, _ => ⟨fun _ => none⟩

noncomputable def vB (P : Program) (o : Oper) : Bx (PE → H → Option V) :=
  match o.op with
  | .move x | .assign x => ⟨fun E _ => some ((opB x).out E)⟩
  | .pick c a b => ⟨fun E _ => match (opB c).out E with | .B t => some (bi t ((opB a).out E) ((opB b).out E)) | _ => none⟩
  | .load t a => match kind P t with | some k => ⟨fun E h => qld k ((opB a).out E) h⟩ | none => ⟨fun _ _ => none⟩
  | .nilCheck x => ⟨fun E _ => nilc ((opB x).out E)⟩
  | .binOp op t x y _ => ⟨fun E _ => (binB P op t).out ((opB x).out E) ((opB y).out E)⟩
  | .unOp op _ x => ⟨fun E _ => una op ((opB x).out E)⟩
  | .convert src dst x => ⟨fun E _ => (cnvB P src dst).out ((opB x).out E)⟩
  | .fieldAddr s x f => ⟨fun E _ => (faB P s f).out ((opB x).out E)⟩
  | .field t x f => ⟨fun E _ => (fldB P t f).out ((opB x).out E)⟩
  | .indexAddr t x ix => ⟨fun E _ => (iaB P t).out ((opB x).out E) ((opB ix).out E)⟩
  | .index t x ix => ⟨fun E _ => (ixB P t).out ((opB x).out E) ((opB ix).out E)⟩
  | .extract x i => ⟨fun E _ => match (opB x).out E with | .T vs => qlget vs i | _ => none⟩
  | .call c => match c.callee with
    | .builtin .len => ⟨fun E _ => (lenB P c).out E⟩
    | _ => ⟨fun E h => evV P E.get h o⟩
  | _ => ⟨fun E h => evV P E.get h o⟩

theorem vB_eq (P : Program) (o : Oper) (E : PE) (h : H) : (vB P o).out E h = evV P E.get h o := by
  unfold vB
  split
  case h_1 x he => unfold evV; rw [he]; simp only [opB_eq]
  case h_2 x he => unfold evV; rw [he]; simp only [opB_eq]
  case h_3 c a b he =>
    unfold evV; rw [he]; simp only [opB_eq]
    cases opv E.get c <;> simp only [bi_eq]
  case h_4 t a he =>
    unfold evV; rw [he]
    dsimp only
    cases kind P t <;> simp only [opB_eq, qld_eq]
  case h_5 x he => unfold evV; rw [he]; simp only [opB_eq]
  case h_6 op t x y u he => unfold evV; rw [he]; simp only [opB_eq, binB_eq]
  case h_7 op t x he => unfold evV; rw [he]; simp only [opB_eq]
  case h_8 s d x he => unfold evV; rw [he]; simp only [opB_eq, cnvB_eq]
  case h_9 s x f he => unfold evV; rw [he]; simp only [opB_eq, faB_eq]
  case h_10 t x f he => unfold evV; rw [he]; simp only [opB_eq, fldB_eq]
  case h_11 t x ix he => unfold evV; rw [he]; simp only [opB_eq, iaB_eq]
  case h_12 t x ix he => unfold evV; rw [he]; simp only [opB_eq, ixB_eq]
  case h_13 x i he =>
    unfold evV; rw [he]; simp only [opB_eq, ext]
    cases opv E.get x <;> simp only [qlget_eq]
  case h_14 c he =>
    split
    · rename_i hc
      unfold evV; rw [he]; simp only [hc, lenB]
      cases c.argTypes[0]? <;> try rfl
      cases c.args[0]? <;> try rfl
      rename_i t x
      simp only
      cases P.underlying t with
      | none => rfl
      | some d =>
        cases d <;> simp only [opB_eq, lenS]
        all_goals first
          | rfl
          | (cases opv E.get x <;> rfl)
    · rfl
  case h_15 => rfl

noncomputable def aB (P : Program) (o : Oper) : Bx (PE → Option (Blk × Mk)) :=
  match o.op with
  | .alloc t => match zeroOf P t with | some z => ⟨fun _ => some (.c .rw z, .ptr)⟩ | none => ⟨fun _ => none⟩
  | .box t x => match kind P t with | some k => ⟨fun E => bi (LK.ok k ((opB x).out E)) (some (.c .rw ((opB x).out E), .ptr)) none⟩ | none => ⟨fun _ => none⟩
  | _ => ⟨fun E => evA P E.get o⟩

theorem aB_eq (P : Program) (o : Oper) (E : PE) : (aB P o).out E = evA P E.get o := by
  unfold aB
  split
  · rename_i t he
    unfold evA; rw [he]
    dsimp only
    cases zeroOf P t <;> rfl
  · rename_i t x he
    unfold evA; rw [he]
    dsimp only
    cases kind P t <;> simp only [opB_eq, bi_eq]
  · rfl

noncomputable def argsB (xs : List Operand) : Bx (PE → List V) :=
  @List.rec Operand (fun _ => Bx (PE → List V)) ⟨fun _ => []⟩ (fun x _ ih => ⟨fun E => (opB x).out E :: ih.out E⟩) xs

theorem argsB_eq (E : PE) : ∀ xs : List Operand, (argsB xs).out E = xs.map (opv E.get)
  | [] => rfl
  | x :: xs => by
    show (opB x).out E :: (argsB xs).out E = _
    rw [opB_eq, argsB_eq E xs]
    rfl

noncomputable def eB (P : Program) (o : Oper) : Bx (CallT → PE → H → Option (V × H)) :=
  match o.op with
  | .store t a x => match kind P t with
    | some k => ⟨fun _ E h => match qsto k ((opB a).out E) ((opB x).out E) h with | some h => some (dd, h) | none => none⟩
    | none => ⟨fun _ _ _ => none⟩
  | .call c => match c.callee with
    | .value f => ⟨fun call E h => match (opB f).out E with | .Fn g first cap => (match g with | .func g => call g (first ++ (argsB c.args.toList).out E ++ cap) h | _ => none) | _ => none⟩
    | .invoke recv name => ⟨fun call E h => match (opB recv).out E with | .If t v => (match methodOf P t name with | some f => call f (v :: (argsB c.args.toList).out E) h | none => none) | _ => none⟩
    | _ => ⟨fun call E h => evE P call E.get h o⟩
  | _ => ⟨fun call E h => evE P call E.get h o⟩

theorem eB_eq (P : Program) (call : CallT) (o : Oper) (E : PE) (h : H) : (eB P o).out call E h = evE P call E.get h o := by
  unfold eB
  split
  · rename_i t a x he
    unfold evE; rw [he]
    dsimp only
    cases kind P t with
    | none => rfl
    | some k =>
      simp only [opB_eq, qsto_eq]
      cases sto k (opv E.get a) (opv E.get x) h <;> rfl
  · rename_i c he
    split
    · rename_i f hc
      unfold evE; rw [he]
      simp only [hc, opB_eq, argsB_eq]
      cases opv E.get f <;> try rfl
      rename_i g _ _
      cases g <;> rfl
    · rename_i recv name hc
      unfold evE; rw [he]
      simp only [hc, opB_eq, argsB_eq]
      cases opv E.get recv <;> rfl
    · rfl
  · rfl

noncomputable def updB (nt : Nat) (d : Option Nat) : Bx (PE → V → PE) :=
  match d with
  | none => ⟨fun E _ => E⟩
  | some d => match Nat.ble (Nat.succ d) nt with
    | true => putB d
    | false => ⟨fun E _ => E⟩

theorem updB_eq (nt : Nat) (d : Option Nat) (E : PE) (v : V) : (updB nt d).out E v = E.upd nt d v := by
  unfold updB PE.upd
  cases d with
  | none => rfl
  | some d =>
    simp only [bi_eq]
    cases Nat.ble (Nat.succ d) nt <;> rfl

noncomputable def wB (ops : List Oper) (o : Oper) : Bx (PE → Bool) :=
  match o.guard with
  | none => ⟨fun _ => true⟩
  | some (j, w) =>
    match (ops[j]?).bind (·.dst) with
    | some t => ⟨fun E => match (selB t).out E with | .B x => x == w | _ => false⟩
    | none => ⟨fun _ => false⟩

theorem wB_eq (ops : List Oper) (o : Oper) (E : PE) : (wB ops o).out E = wants ops E.get o := by
  unfold wB wants
  cases o.guard with
  | none => rfl
  | some p =>
    obtain ⟨j, w⟩ := p
    simp only
    cases (ops[j]?).bind (·.dst) <;> rfl

abbrev KT := PE → H → Option R2

noncomputable def stepB (P : Program) (nt : Nat) (ops : List Oper) (o : Oper) : Bx (CallT → PE → H → KT → Option R2) :=
  match cls o.op with
  | 0 | 1 => ⟨fun _ E h k => match bi ((wB ops o).out E) ((vB P o).out E h) (some dd) with | some v => k ((updB nt o.dst).out E v) h | none => none⟩
  | 2 => ⟨fun _ E h k => bi ((wB ops o).out E) (match (aB P o).out E with | some (blk, m) => k ((updB nt o.dst).out E (m.val h.next)) (qhnew h blk) | none => none) (k ((updB nt o.dst).out E dd) h)⟩
  | 3 => ⟨fun call E h k => match bi ((wB ops o).out E) ((eB P o).out call E h) (some (dd, h)) with | some (v, h) => k ((updB nt o.dst).out E v) h | none => none⟩
  | _ => ⟨fun _ _ _ _ => none⟩

theorem gV_bi {w : Bool} {x : Option V} : bi w x (some dd) = gV w fun _ => x := by cases w <;> rfl
theorem gE_bi {w : Bool} {h : H} {x : Option (V × H)} : bi w x (some (dd, h)) = gE w h fun _ => x := by cases w <;> rfl

theorem stepB_eq {P : Program} {call : CallT} {nt : Nat} {ops : List Oper} {o : Oper} {E : PE} {h : H} {k : KT} {k' : Env → H → Option R2} (hnt : nt ≤ 512) (hk : ∀ E h, k' E.get h = k E h) :
    evOp P call nt ops o E.get h k' = (stepB P nt ops o).out call E h k := by
  unfold evOp stepB
  have h0 : ((gV (wants ops E.get o) fun _ => evV P E.get h o).bind fun v => k' (Env.upd E.get nt o.dst v) h) = match bi ((wB ops o).out E) ((vB P o).out E h) (some dd) with | some v => k ((updB nt o.dst).out E v) h | none => none := by
    rw [gV_bi, wB_eq, vB_eq]
    cases gV (wants ops E.get o) fun _ => evV P E.get h o with
    | none => rfl
    | some v => simp only [Option.bind_some, updB_eq, ← PE.get_upd _ _ hnt, hk]
  have h2 : ((gE (wants ops E.get o) h fun _ => mkB h (evA P E.get o)).bind fun r => k' (Env.upd E.get nt o.dst r.1) r.2) =
      bi ((wB ops o).out E) (match (aB P o).out E with | some (blk, m) => k ((updB nt o.dst).out E (m.val h.next)) (qhnew h blk) | none => none) (k ((updB nt o.dst).out E dd) h) := by
    rw [wB_eq, aB_eq]
    cases wants ops E.get o with
    | false => simp only [gE, bi_eq, Bool.false_eq_true, if_false, Option.bind_some, updB_eq, ← PE.get_upd _ _ hnt, hk]
    | true =>
      simp only [gE, bi_eq, if_true]
      cases evA P E.get o with
      | none => rfl
      | some p =>
        obtain ⟨blk, m⟩ := p
        simp only [mkB, Option.bind_some, updB_eq, ← PE.get_upd _ _ hnt, hk, qhnew_eq]
  have h3 : ((gE (wants ops E.get o) h fun _ => evE P call E.get h o).bind fun r => k' (Env.upd E.get nt o.dst r.1) r.2) =
      match bi ((wB ops o).out E) ((eB P o).out call E h) (some (dd, h)) with | some (v, h) => k ((updB nt o.dst).out E v) h | none => none := by
    rw [gE_bi, wB_eq, eB_eq]
    cases gE (wants ops E.get o) h fun _ => evE P call E.get h o with
    | none => rfl
    | some r => obtain ⟨v, h1⟩ := r; simp only [Option.bind_some, updB_eq, ← PE.get_upd _ _ hnt, hk]
  rcases hc : cls o.op with _ | _ | _ | _ | n
  · exact h0
  · exact h0
  · exact h2
  · exact h3
  · rfl

noncomputable def stepsB (P : Program) (nt : Nat) (ops : List Oper) (os : List Oper) : Bx (CallT → PE → H → KT → Option R2) :=
  @List.rec Oper (fun _ => Bx (CallT → PE → H → KT → Option R2)) ⟨fun _ E h k => k E h⟩ (fun o _ ih => ⟨fun call E h k => (stepB P nt ops o).out call E h fun E h => ih.out call E h k⟩) os

theorem stepsB_eq {P : Program} {call : CallT} {nt : Nat} {ops : List Oper} {k : KT} {k' : Env → H → Option R2} (hnt : nt ≤ 512) (hk : ∀ E h, k' E.get h = k E h) :
    ∀ {os : List Oper} {E : PE} {h : H}, evOps P call nt ops os E.get h k' = (stepsB P nt ops os).out call E h k
  | [], E, h => by simp only [evOps, hk]; rfl
  | o :: os, E, h => by
    simp only [evOps]
    show _ = (stepB P nt ops o).out call E h fun E h => (stepsB P nt ops os).out call E h k
    exact stepB_eq hnt fun E h => stepsB_eq hnt hk

abbrev DT := CallT → List Rd → PE → H → H → KT → Option R2

noncomputable def drawB1 (P : Program) (nt : Nat) (ops : List Oper) (an : List Nat) (i : Nat) (ih : Bx DT) : Bx DT :=
  match ops[i]? with
  | none => ⟨fun _ _ _ _ _ _ => none⟩
  | some o =>
    match cls o.op with
    | 0 => ⟨fun call rs E hs h k => match bi ((wB ops o).out E) ((vB P o).out E hs) (some dd) with | some v => ih.out call rs ((updB nt o.dst).out E v) hs h k | none => none⟩
    | 1 => ⟨fun call rs E hs h k => match bi ((wB ops o).out E) ((vB P o).out E hs) (some dd) with | some v => ih.out call (rs ++ [⟨i, E.get, (wB ops o).out E, v⟩]) ((updB nt o.dst).out E v) hs h k | none => none⟩
    | 2 => ⟨fun call rs E hs h k => bi ((wB ops o).out E) (match (aB P o).out E with | some (blk, m) => ih.out call rs ((updB nt o.dst).out E (m.val h.next)) hs (qhnew h blk) k | none => none) (ih.out call rs ((updB nt o.dst).out E dd) hs h k)⟩
    | 3 => ⟨fun call rs E _ h k => match bi ((wB ops o).out E) ((eB P o).out call E h) (some (dd, h)) with
        | some (v, h) => (match chks P ops h (an.getD i 0) rs with | some _ => ih.out call rs ((updB nt o.dst).out E v) h h k | none => none)
        | none => none⟩
    | _ => ⟨fun _ _ _ _ _ _ => none⟩

noncomputable def drawB (P : Program) (nt : Nat) (ops : List Oper) (an : List Nat) (is : List Nat) : Bx DT :=
  @List.rec Nat (fun _ => Bx DT) ⟨fun _ _ E _ h k => k E h⟩ (fun i _ ih => drawB1 P nt ops an i ih) is

theorem drawB_eq {P : Program} {call : CallT} {nt : Nat} {ops : List Oper} {an : List Nat} {k : KT} {k' : Env → H → Option R2} (hnt : nt ≤ 512) (hk : ∀ E h, k' E.get h = k E h) :
    ∀ {is : List Nat} {rs : List Rd} {E : PE} {hs h : H}, evDraw P call nt ops an is rs E.get hs h k' = (drawB P nt ops an is).out call rs E hs h k
  | [], rs, E, hs, h => by simp only [evDraw, hk]; rfl
  | i :: is, rs, E, hs, h => by
    have ih : ∀ (rs : List Rd) (E : PE) (hs h : H), evDraw P call nt ops an is rs E.get hs h k' = (drawB P nt ops an is).out call rs E hs h k := fun _ _ _ _ => drawB_eq hnt hk
    show _ = (drawB1 P nt ops an i (drawB P nt ops an is)).out call rs E hs h k
    simp only [evDraw, drawB1]
    cases ops[i]? with
    | none => rfl
    | some o =>
      simp only
      rcases hc : cls o.op with _ | _ | _ | _ | n
      · simp only [gV_bi, wB_eq, vB_eq]
        cases gV (wants ops E.get o) fun _ => evV P E.get hs o with
        | none => rfl
        | some v => simp only [Option.bind_some, updB_eq, ← PE.get_upd _ _ hnt, ih]
      · simp only [gV_bi, wB_eq, vB_eq]
        cases gV (wants ops E.get o) fun _ => evV P E.get hs o with
        | none => rfl
        | some v => simp only [Option.bind_some, updB_eq, ← PE.get_upd _ _ hnt, ih]
      · simp only [wB_eq, aB_eq]
        cases wants ops E.get o with
        | false => simp only [gE, bi_eq, Bool.false_eq_true, if_false, Option.bind_some, updB_eq, ← PE.get_upd _ _ hnt, ih]
        | true =>
          simp only [gE, bi_eq, if_true]
          cases evA P E.get o with
          | none => rfl
          | some p =>
            obtain ⟨blk, m⟩ := p
            simp only [mkB, Option.bind_some, updB_eq, ← PE.get_upd _ _ hnt, ih, qhnew_eq]
      · simp only [gE_bi, wB_eq, eB_eq]
        cases gE (wants ops E.get o) h fun _ => evE P call E.get h o with
        | none => rfl
        | some r =>
          obtain ⟨v, h1⟩ := r
          simp only [Option.bind_some]
          cases chks P ops h1 (an.getD i 0) rs with
          | none => rfl
          | some u => simp only [Option.bind_some, updB_eq, ← PE.get_upd _ _ hnt, ih]
      · rfl

abbrev TK := Ex → PE → H → Option R2
abbrev CT := CallT → PE → H → TK → Option R2

structure CB where
  c : CT
  l : Nat → CT

noncomputable def tIter (body : PE → H → TK → Option R2) (n : Nat) : PE → H → TK → Option R2 :=
  @Nat.rec (fun _ => PE → H → TK → Option R2) (fun _ _ _ => none) (fun _ ih E h k => body E h fun ex E h => match ex with | .norm => ih E h k | ex => k ex E h) n

noncomputable def tJumps (l : Nat) (body : PE → H → TK → Option R2) (n : Nat) : PE → H → TK → Option R2 :=
  @Nat.rec (fun _ => PE → H → TK → Option R2) (fun _ _ _ => none) (fun _ ih E h k => body E h fun ex E h => match ex with | .goto l' => bi (Nat.beq l' l) (ih E h k) none | ex => k ex E h) n

noncomputable def regB (P : Program) (nt : Nat) (ops : List Oper) (draw : Bool) : CB :=
  match opsOk nt ops with
  | true =>
    match draw with
    | true =>
      match drawOk nt ops with
      | true => ⟨fun call E h k => (drawB P nt ops (anc ops) (plan ops)).out call [] E h h fun E h => k .norm E h, fun _ _ _ _ _ => none⟩
      | false => ⟨fun _ _ _ _ => none, fun _ _ _ _ _ => none⟩
    | false => ⟨fun call E h k => (stepsB P nt ops ops).out call E h fun E h => k .norm E h, fun _ _ _ _ _ => none⟩
  | false => ⟨fun _ _ _ _ => none, fun _ _ _ _ _ => none⟩

noncomputable def condB (nt : Nat) (c : Operand) (x y : CB) : CB :=
  match okOp nt c with
  | true => ⟨fun call E h k => match (opB c).out E with | .B t => bi t (x.c call E h k) (y.c call E h k) | _ => none, fun _ _ _ _ _ => none⟩
  | false => ⟨fun _ _ _ _ => none, fun _ _ _ _ _ => none⟩

noncomputable def codeB (P : Program) (nt N : Nat) (c : Code) : CB :=
  @Code.rec (fun _ => CB)
    ⟨fun _ E h k => k .norm E h, fun _ _ _ _ _ => none⟩
    (fun _ ops draw => regB P nt ops.toList draw)
    (fun a _ iha ihb => ⟨fun call E h k => iha.c call E h fun ex E h => match ex with | .norm => ihb.c call E h k | ex => k ex E h,
      fun l call E h k => bi (hasLabel a l) (iha.l l call E h fun ex E h => match ex with | .norm => ihb.c call E h k | ex => k ex E h) (ihb.l l call E h k)⟩)
    (fun c _ _ ihx ihy => condB nt c ihx ihy)
    (fun id _ ih => ⟨fun call E h k => ih.c call E h fun ex E h => match ex with | .exit i => bi (Nat.beq i id) (k .norm E h) (k (.exit i) E h) | ex => k ex E h, fun _ _ _ _ _ => none⟩)
    (fun _ ih => ⟨fun call E h k => tIter (fun E h k => ih.c call E h k) N E h k, fun _ _ _ _ _ => none⟩)
    (fun _ _ _ _ _ _ => ⟨fun _ _ _ _ => none, fun _ _ _ _ _ => none⟩)
    (fun id => ⟨fun _ E h k => k (.exit id) E h, fun _ _ _ _ _ => none⟩)
    (fun c ih => ⟨fun call E h k => ih.c call E h fun ex E h => match ex with | .goto l => bi (hasLabel c l) (tJumps l (fun E h k => ih.l l call E h k) N E h k) none | ex => k ex E h, fun _ _ _ _ _ => none⟩)
    (fun l' => ⟨fun _ E h k => k .norm E h, fun l _ E h k => bi (Nat.beq l' l) (k .norm E h) none⟩)
    (fun l => ⟨fun _ E h k => k (.goto l) E h, fun _ _ _ _ _ => none⟩)
    ⟨fun _ E h k => k .ret E h, fun _ _ _ _ _ => none⟩
    (fun _ => ⟨fun _ _ _ _ => none, fun _ _ _ _ _ => none⟩)
    c

section
variable {P : Program} {call : CallT} {nt N : Nat}

theorem tIter_eq {body : Env → H → K R2 → Option R2} {qbody : PE → H → TK → Option R2} (hb : ∀ {E : PE} {h : H} {k : TK} {k' : K R2}, (∀ ex E h, k' ex E.get h = k ex E h) → body E.get h k' = qbody E h k) :
    ∀ {n : Nat} {E : PE} {h : H} {k : TK} {k' : K R2}, (∀ ex E h, k' ex E.get h = k ex E h) → iter body n E.get h k' = tIter qbody n E h k
  | 0, E, h, k, k', hk => rfl
  | n + 1, E, h, k, k', hk => by
    simp only [iter]
    show _ = qbody E h fun ex E h => match ex with | .norm => tIter qbody n E h k | ex => k ex E h
    refine hb fun ex E h => ?_
    cases ex with
    | norm => exact tIter_eq hb hk
    | exit i => exact hk _ _ _
    | goto l => exact hk _ _ _
    | ret => exact hk _ _ _

theorem tJumps_eq {l : Nat} {body : Env → H → K R2 → Option R2} {qbody : PE → H → TK → Option R2} (hb : ∀ {E : PE} {h : H} {k : TK} {k' : K R2}, (∀ ex E h, k' ex E.get h = k ex E h) → body E.get h k' = qbody E h k) :
    ∀ {n : Nat} {E : PE} {h : H} {k : TK} {k' : K R2}, (∀ ex E h, k' ex E.get h = k ex E h) → jumps l body n E.get h k' = tJumps l qbody n E h k
  | 0, E, h, k, k', hk => rfl
  | n + 1, E, h, k, k', hk => by
    simp only [jumps]
    show _ = qbody E h fun ex E h => match ex with | .goto l' => bi (Nat.beq l' l) (tJumps l qbody n E h k) none | ex => k ex E h
    refine hb fun ex E h => ?_
    cases ex with
    | norm => exact hk _ _ _
    | exit i => exact hk _ _ _
    | goto l' =>
      simp only [bi_eq, Nat.beq_eq]
      split
      · exact tJumps_eq hb hk
      · rfl
    | ret => exact hk _ _ _

mutual
theorem codeB_eq (hnt : nt ≤ 512) : ∀ {c : Code} {E : PE} {h : H} {k : TK} {k' : K R2}, (∀ ex E h, k' ex E.get h = k ex E h) → evC P call nt N c E.get h k' = (codeB P nt N c).c call E h k
  | .skip, E, h, k, k', hk => by simp only [evC, hk]; rfl
  | .label _, E, h, k, k', hk => by simp only [evC, hk]; rfl
  | .region _ ops draw, E, h, k, k', hk => by
    simp only [evC]
    show _ = (regB P nt ops.toList draw).c call E h k
    unfold regB
    cases opsOk nt ops.toList with
    | false => rfl
    | true =>
      simp only [if_true]
      cases draw with
      | false => exact stepsB_eq hnt fun E h => hk _ _ _
      | true =>
        simp only [if_true]
        cases drawOk nt ops.toList with
        | false => rfl
        | true => exact drawB_eq hnt fun E h => hk _ _ _
  | .seq a b, E, h, k, k', hk => by
    simp only [evC]
    show _ = (codeB P nt N a).c call E h fun ex E h => match ex with | .norm => (codeB P nt N b).c call E h k | ex => k ex E h
    refine codeB_eq hnt fun ex E h => ?_
    cases ex with
    | norm => exact codeB_eq hnt hk
    | exit i => exact hk _ _ _
    | goto l => exact hk _ _ _
    | ret => exact hk _ _ _
  | .cond c x y, E, h, k, k', hk => by
    simp only [evC]
    show _ = (condB nt c (codeB P nt N x) (codeB P nt N y)).c call E h k
    unfold condB
    rw [codeB_eq hnt (c := x) hk, codeB_eq hnt (c := y) hk]
    cases okOp nt c with
    | false => rfl
    | true =>
      simp only [if_true, opB_eq, condV]
      cases opv E.get c <;> simp only [bi_eq]
  | .block id c, E, h, k, k', hk => by
    simp only [evC]
    show _ = (codeB P nt N c).c call E h fun ex E h => match ex with | .exit i => bi (Nat.beq i id) (k .norm E h) (k (.exit i) E h) | ex => k ex E h
    refine codeB_eq hnt fun ex E h => ?_
    cases ex with
    | norm => exact hk _ _ _
    | exit i =>
      simp only [bi_eq, Nat.beq_eq]
      split <;> exact hk _ _ _
    | goto l => exact hk _ _ _
    | ret => exact hk _ _ _
  | .loop c, E, h, k, k', hk => by
    simp only [evC]
    show _ = tIter (fun E h k => (codeB P nt N c).c call E h k) N E h k
    exact tIter_eq (fun hk => codeB_eq hnt hk) hk
  | .exit id, E, h, k, k', hk => by simp only [evC, hk]; rfl
  | .goto l, E, h, k, k', hk => by simp only [evC, hk]; rfl
  | .ret, E, h, k, k', hk => by simp only [evC, hk]; rfl
  | .rangeFunc .., _, _, _, _, _ => by simp only [evC]; rfl
  | .scope c, E, h, k, k', hk => by
    simp only [evC]
    show _ = (codeB P nt N c).c call E h fun ex E h => match ex with | .goto l => bi (hasLabel c l) (tJumps l (fun E h k => (codeB P nt N c).l l call E h k) N E h k) none | ex => k ex E h
    refine codeB_eq hnt fun ex E h => ?_
    cases ex with
    | norm => exact hk _ _ _
    | exit i => exact hk _ _ _
    | goto l =>
      simp only [bi_eq]
      split
      · exact tJumps_eq (fun hk => codeL_eq hnt hk) hk
      · rfl
    | ret => exact hk _ _ _
  | .refuse _, _, _, _, _, _ => by simp only [evC]; rfl
theorem codeL_eq (hnt : nt ≤ 512) {l : Nat} : ∀ {c : Code} {E : PE} {h : H} {k : TK} {k' : K R2}, (∀ ex E h, k' ex E.get h = k ex E h) → evL P call nt N l c E.get h k' = (codeB P nt N c).l l call E h k
  | .seq a b, E, h, k, k', hk => by
    simp only [evL]
    show _ = bi (hasLabel a l) ((codeB P nt N a).l l call E h fun ex E h => match ex with | .norm => (codeB P nt N b).c call E h k | ex => k ex E h) ((codeB P nt N b).l l call E h k)
    rw [bi_eq]
    split
    · refine codeL_eq hnt fun ex E h => ?_
      cases ex with
      | norm => exact codeB_eq hnt hk
      | exit i => exact hk _ _ _
      | goto l => exact hk _ _ _
      | ret => exact hk _ _ _
    · exact codeL_eq hnt hk
  | .label l', E, h, k, k', hk => by
    simp only [evL]
    show _ = bi (Nat.beq l' l) (k .norm E h) none
    simp only [bi_eq, Nat.beq_eq, hk, beq_iff_eq]
  | .region _ ops draw, _, _, _, _, _ => by
    simp only [evL]
    show _ = (regB P nt ops.toList draw).l l _ _ _ _
    unfold regB
    cases opsOk nt ops.toList <;> try rfl
    cases draw <;> try rfl
    simp only
    cases drawOk nt ops.toList <;> rfl
  | .cond c x y, _, _, _, _, _ => by
    simp only [evL]
    show _ = (condB nt c (codeB P nt N x) (codeB P nt N y)).l l _ _ _ _
    unfold condB
    cases okOp nt c <;> rfl
  | .skip, _, _, _, _, _ | .block .., _, _, _, _, _ | .loop _, _, _, _, _, _ | .exit _, _, _, _, _, _ | .goto _, _, _, _, _, _ | .ret, _, _, _, _, _
  | .scope _, _, _, _, _, _ | .rangeFunc .., _, _, _, _, _ | .refuse _, _, _, _, _, _ => by simp only [evL]; rfl
end

end

abbrev FT := CallT → List V → H → Option R2

noncomputable def fnB (P : Program) (N : Nat) (fn : Func) : Bx FT :=
  match fn.body with
  | some c =>
    match Nat.ble fn.ntmps 512 && fn.results.toList.all (resOk fn.ntmps) && !(fn.name == "runtime.NumGoroutine") with
    | true => ⟨fun call args h => bi (Nat.ble args.length fn.ntmps) ((codeB P fn.ntmps N c).c call (PE.ofs args 0 .nil) h fun ex E h =>
        match ex with
        | .norm | .ret => (match evR P E.get h fn.results.toList with | some vs => some (retV vs, h) | none => none)
        | _ => none) none⟩
    | false => ⟨fun call args h => evB P call N fn args h⟩
  | none => ⟨fun _ _ _ => none⟩

theorem fnB_eq {P : Program} {call : CallT} {N : Nat} {fn : Func} {args : List V} {h : H} : evB P call N fn args h = (fnB P N fn).out call args h := by
  unfold fnB
  cases hb : fn.body with
  | none => unfold evB; rw [hb]
  | some c =>
    simp only
    cases hc : Nat.ble fn.ntmps 512 && fn.results.toList.all (resOk fn.ntmps) && !(fn.name == "runtime.NumGoroutine") with
    | false => rfl
    | true =>
      simp only [Bool.and_eq_true, Bool.not_eq_true', Nat.ble_eq] at hc
      obtain ⟨⟨hnt, hr⟩, hn⟩ := hc
      unfold evB
      rw [hb]
      simp only [hr, hn, Bool.and_true, Bool.not_false, decide_eq_true_eq, bi_eq, Nat.ble_eq]
      by_cases hl : args.length ≤ fn.ntmps
      · rw [if_pos hl, if_pos hl, ← PE.get_args _ (by omega)]
        refine codeB_eq hnt fun ex E h => ?_
        cases ex <;> simp only
        all_goals cases evR P E.get h fn.results.toList <;> rfl
      · rw [if_neg hl, if_neg hl]

noncomputable def funB (P : Program) (N f : Nat) : Bx FT :=
  match P.funcs[f]? with
  | some fn => fnB P N fn
  | none => ⟨fun _ _ _ => none⟩

noncomputable def qF (P : Program) (N d : Nat) : CallT :=
  @Nat.rec (fun _ => CallT) (fun _ _ _ => none) (fun _ ih f args h => (funB P N f).out ih args h) d

theorem qF_eq {P : Program} {N : Nat} : ∀ d, evF P N d = qF P N d
  | 0 => rfl
  | d + 1 => by
    funext f args h
    show _ = (funB P N f).out (qF P N d) args h
    simp only [evF, funB, qF_eq d]
    cases P.funcs[f]? with
    | none => rfl
    | some fn => exact fnB_eq

end Go.Proofs.YtnnebakkcdclmaaGreat.AM
