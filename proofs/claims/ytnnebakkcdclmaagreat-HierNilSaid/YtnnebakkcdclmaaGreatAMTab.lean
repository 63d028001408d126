/-
  Proved here, for every program: a part of the soundness of an abstract machine against the model: the machine with a table of orders answers as it does itself. Conditions: none.
-/
import Derived.Test.YtnnebakkcdclmaaGreatAMStage
/-
  The machine for the kernel, with a table of the orders of regions: what a region's order asks is shown once, apart.
-/
namespace Go.Proofs.YtnnebakkcdclmaaGreat.AM

noncomputable def regT (P : Program) (nt : Nat) (ops : List Oper) (draw : Bool) (pl : List Nat) : CB :=
  match draw with
  | true => ⟨fun call E h k => (drawB P nt ops (anc ops) pl).out call [] E h h fun E h => k .norm E h, fun _ _ _ _ _ => none⟩
  | false => ⟨fun call E h k => (stepsB P nt ops ops).out call E h fun E h => k .norm E h, fun _ _ _ _ _ => none⟩

noncomputable def condT (c : Operand) (x y : CB) : CB :=
  ⟨fun call E h k => match (opB c).out E with | .B t => bi t (x.c call E h k) (y.c call E h k) | _ => none, fun _ _ _ _ _ => none⟩

/-- A region's order, by its number; where there is none: as it stands. -/
noncomputable def ordOf (l : List (Nat × List Nat)) (n id : Nat) : List Nat :=
  @List.rec (Nat × List Nat) (fun _ => List Nat) (List.range n) (fun p _ ih => bi (Nat.beq p.1 id) p.2 ih) l

noncomputable def codeT (P : Program) (nt N : Nat) (tb : List (Nat × List Nat)) (c : Code) : CB :=
  @Code.rec (fun _ => CB)
    ⟨fun _ E h k => k .norm E h, fun _ _ _ _ _ => none⟩
    (fun id ops draw => regT P nt ops.toList draw (ordOf tb ops.size id))
    (fun a _ iha ihb => ⟨fun call E h k => iha.c call E h fun ex E h => match ex with | .norm => ihb.c call E h k | ex => k ex E h,
      fun l call E h k => bi (hasLabel a l) (iha.l l call E h fun ex E h => match ex with | .norm => ihb.c call E h k | ex => k ex E h) (ihb.l l call E h k)⟩)
    (fun c _ _ ihx ihy => condT c ihx ihy)
    (fun id _ ih => ⟨fun call E h k => ih.c call E h fun ex E h => match ex with | .exit i => bi (Nat.beq i id) (k .norm E h) (k (.exit i) E h) | ex => k ex E h, fun _ _ _ _ _ => none⟩)
    (fun _ ih => ⟨fun call E h k => tIter (fun E h k => ih.c call E h k) N E h k, fun _ _ _ _ _ => none⟩)
    (fun _ _ _ _ _ _ => ⟨fun _ _ _ _ => none, fun _ _ _ _ _ => none⟩)
    (fun id => ⟨fun _ E h k => k (.exit id) E h, fun _ _ _ _ _ => none⟩)
    (fun c ih => ⟨fun call E h k => ih.c call E h fun ex E h => match ex with | .goto l => bi (hasLabel c l) (tJumps l (fun E h k => ih.l l call E h k) N E h k) none | ex => k ex E h, fun _ _ _ _ _ => none⟩)
    (fun l' => ⟨fun _ E h k => k .norm E h, fun l _ E h k => bi (Nat.beq l' l) (k .norm E h) none⟩)
    (fun l => ⟨fun _ E h k => k (.goto l) E h, fun _ _ _ _ _ => none⟩)
    ⟨fun _ E h k => k .ret E h, fun _ _ _ _ _ => none⟩
    (fun _ => ⟨fun _ _ _ _ => none, fun _ _ _ _ _ => none⟩)
    c

/-- All that is asked of code but once. -/
noncomputable def okT (nt : Nat) (tb : List (Nat × List Nat)) (c : Code) : Bool :=
  @Code.rec (fun _ => Bool) true
    (fun id ops draw => opsOk nt ops.toList && (not draw || (drawOk nt ops.toList && decide (ordOf tb ops.size id = plan ops.toList))))
    (fun _ _ a b => and a b) (fun c _ _ a b => and (okOp nt c) (and a b)) (fun _ _ a => a) (fun _ a => a) (fun _ _ _ _ _ _ => true) (fun _ => true) (fun _ a => a) (fun _ => true) (fun _ => true) true (fun _ => true) c

theorem codeT_eq {P : Program} {nt N : Nat} {tb : List (Nat × List Nat)} : ∀ {c : Code}, okT nt tb c = true → codeT P nt N tb c = codeB P nt N c
  | .skip, _ => rfl
  | .label _, _ => rfl
  | .exit _, _ => rfl
  | .goto _, _ => rfl
  | .ret, _ => rfl
  | .rangeFunc .., _ => rfl
  | .refuse _, _ => rfl
  | .region id ops draw, h => by
    have h' : (opsOk nt ops.toList && (not draw || (drawOk nt ops.toList && decide (ordOf tb ops.size id = plan ops.toList)))) = true := h
    show regT P nt ops.toList draw (ordOf tb ops.size id) = regB P nt ops.toList draw
    unfold regT regB
    simp only [Bool.and_eq_true, Bool.or_eq_true, Bool.not_eq_true', decide_eq_true_eq] at h'
    obtain ⟨h1, h2⟩ := h'
    rw [h1]
    cases draw with
    | false => rfl
    | true =>
      simp only [Bool.true_eq_false, false_or] at h2
      rw [h2.1, h2.2]
  | .seq a b, h => by
    have h' : and (okT nt tb a) (okT nt tb b) = true := h
    simp only [Bool.and_eq_true] at h'
    have e1 := codeT_eq (P := P) (N := N) h'.1
    have e2 := codeT_eq (P := P) (N := N) h'.2
    show CB.mk (fun call E h k => (codeT P nt N tb a).c call E h fun ex E h => match ex with | .norm => (codeT P nt N tb b).c call E h k | ex => k ex E h)
      (fun l call E h k => bi (hasLabel a l) ((codeT P nt N tb a).l l call E h fun ex E h => match ex with | .norm => (codeT P nt N tb b).c call E h k | ex => k ex E h) ((codeT P nt N tb b).l l call E h k)) = _
    rw [e1, e2]
    rfl
  | .cond c x y, h => by
    have h' : and (okOp nt c) (and (okT nt tb x) (okT nt tb y)) = true := h
    simp only [Bool.and_eq_true] at h'
    show condT c (codeT P nt N tb x) (codeT P nt N tb y) = condB nt c (codeB P nt N x) (codeB P nt N y)
    rw [codeT_eq h'.2.1, codeT_eq h'.2.2]
    unfold condB
    rw [h'.1]
    rfl
  | .block id c, h => by
    have e1 := codeT_eq (P := P) (N := N) (c := c) h
    show CB.mk (fun call E h k => (codeT P nt N tb c).c call E h fun ex E h => match ex with | .exit i => bi (Nat.beq i id) (k .norm E h) (k (.exit i) E h) | ex => k ex E h) (fun _ _ _ _ _ => none) = _
    rw [e1]
    rfl
  | .loop c, h => by
    have e1 := codeT_eq (P := P) (N := N) (c := c) h
    show CB.mk (fun call E h k => tIter (fun E h k => (codeT P nt N tb c).c call E h k) N E h k) (fun _ _ _ _ _ => none) = _
    rw [e1]
    rfl
  | .scope c, h => by
    have e1 := codeT_eq (P := P) (N := N) (c := c) h
    show CB.mk (fun call E h k => (codeT P nt N tb c).c call E h fun ex E h => match ex with | .goto l => bi (hasLabel c l) (tJumps l (fun E h k => (codeT P nt N tb c).l l call E h k) N E h k) none | ex => k ex E h) (fun _ _ _ _ _ => none) = _
    rw [e1]
    rfl

noncomputable def fnT (P : Program) (N : Nat) (tb : List (Nat × List Nat)) (fn : Func) : Bx FT :=
  match fn.body with
  | some c =>
    match Nat.ble fn.ntmps 512 && fn.results.toList.all (resOk fn.ntmps) && !(fn.name == "runtime.NumGoroutine") with
    | true => ⟨fun call args h => bi (Nat.ble args.length fn.ntmps) ((codeT P fn.ntmps N tb c).c call (PE.ofs args 0 .nil) h fun ex E h =>
        match ex with
        | .norm | .ret => (match evR P E.get h fn.results.toList with | some vs => some (retV vs, h) | none => none)
        | _ => none) none⟩
    | false => ⟨fun call args h => evB P call N fn args h⟩
  | none => ⟨fun _ _ _ => none⟩

noncomputable def okFn (tb : List (Nat × List Nat)) (fn : Func) : Bool :=
  match fn.body with
  | some c => okT fn.ntmps tb c
  | none => true

theorem fnT_eq {P : Program} {N : Nat} {tb : List (Nat × List Nat)} {fn : Func} (h : okFn tb fn = true) : fnT P N tb fn = fnB P N fn := by
  unfold fnT fnB
  unfold okFn at h
  cases hb : fn.body with
  | none => rfl
  | some c =>
    rw [hb] at h
    simp only
    rw [codeT_eq h]
    rfl

abbrev Tab := List (Option (List (Nat × List Nat)))

noncomputable def funT (P : Program) (N : Nat) (tab : Tab) (f : Nat) : Bx FT :=
  match P.funcs[f]? with
  | some fn => match qlget tab f with
    | some (some tb) => fnT P N tb fn
    | _ => fnB P N fn
  | none => ⟨fun _ _ _ => none⟩

noncomputable def tF (P : Program) (N : Nat) (tab : Tab) (d : Nat) : CallT :=
  @Nat.rec (fun _ => CallT) (fun _ _ _ => none) (fun _ ih f args h => (funT P N tab f).out ih args h) d

/-- Is a function as its table says? -/
noncomputable def okAt (P : Program) (tab : Tab) (f : Nat) : Bool :=
  match qlget tab f with
  | some (some tb) => match P.funcs[f]? with | some fn => okFn tb fn | none => true
  | _ => true

noncomputable def okFrom (P : Program) (tab : Tab) (n : Nat) : Nat → Bool :=
  @Nat.rec (fun _ => Nat → Bool) (fun _ => true) (fun _ ih f => and (okAt P tab f) (ih (Nat.succ f))) n

theorem okFrom_at {P : Program} {tab : Tab} : ∀ {n f g : Nat}, okFrom P tab n f = true → f ≤ g → g < f + n → okAt P tab g = true
  | 0, f, g, _, h1, h2 => by omega
  | n + 1, f, g, h, h1, h2 => by
    have h' : and (okAt P tab f) (okFrom P tab n (f + 1)) = true := h
    simp only [Bool.and_eq_true] at h'
    by_cases e : f = g
    · subst e; exact h'.1
    · exact okFrom_at h'.2 (by omega) (by omega)

theorem okAt_big {P : Program} {tab : Tab} {f : Nat} (h : tab.length ≤ f) : okAt P tab f = true := by
  unfold okAt
  rw [qlget_eq, List.getElem?_eq_none h]

theorem funT_out {P : Program} {N : Nat} {tab : Tab} (ok : ∀ f, okAt P tab f = true) {call : CallT} {f : Nat} {fn : Func} (hf : P.funcs[f]? = some fn) {args : List V} {h : H} : (funT P N tab f).out call args h = evB P call N fn args h := by
  have := ok f
  unfold okAt at this
  rw [hf] at this
  unfold funT
  rw [hf, fnB_eq]
  cases hq : qlget tab f with
  | none => rfl
  | some o =>
    cases o with
    | none => rfl
    | some tb =>
      rw [hq] at this
      simp only at this ⊢
      rw [fnT_eq this]

theorem tF_eq {P : Program} {N : Nat} {tab : Tab} (ok : ∀ f, okAt P tab f = true) : ∀ d, evF P N d = tF P N tab d
  | 0 => rfl
  | d + 1 => by
    funext f args h
    show _ = (funT P N tab f).out (tF P N tab d) args h
    have hf : funT P N tab f = funB P N f := by
      have := ok f
      unfold okAt at this
      unfold funT funB
      cases hq : qlget tab f with
      | none => rfl
      | some o =>
        cases o with
        | none => rfl
        | some tb =>
          rw [hq] at this
          simp only at this ⊢
          cases hp : P.funcs[f]? with
          | none => rfl
          | some fn =>
            rw [hp] at this
            simp only at this ⊢
            exact fnT_eq this
    rw [hf]
    simp only [evF, funB, tF_eq ok d]
    cases P.funcs[f]? with
    | none => rfl
    | some fn => exact fnB_eq

end Go.Proofs.YtnnebakkcdclmaaGreat.AM
