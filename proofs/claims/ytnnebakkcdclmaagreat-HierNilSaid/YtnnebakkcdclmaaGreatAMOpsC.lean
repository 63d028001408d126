/-
  Proved here, for every program: a part of the soundness of an abstract machine against the model: lemmas. Conditions: none.
-/
import Derived.Test.YtnnebakkcdclmaaGreatAMOpsB
import Derived.Test.YtnnebakkcdclmaaGreatAMOps8b
namespace Go.Proofs.YtnnebakkcdclmaaGreat.AM
section
variable {P : Program} {φ : Phi} {w : World} {h : H}

theorem run_v (s : Sem Value) {z : Value} {w' : World} (hs : s.run P w = .ok z w') : (do pure (.value (← s)) : Sem Next).run P w = .ok (.value z) w' := by
  simp [hs]

theorem relO_map {E : Env} {a : Act} {nt : Nat} (r : ERel P φ E a nt) {x : Option Operand} (ho : x.toList.all (okOp nt) = true) : relO P φ (x.map (opv E)) (x.map a.eval) := by
  cases x with
  | none => trivial
  | some x => simp at ho; exact opv_rel r ho

theorem optAll {f : Operand → Bool} {x : Option Operand} (h : x.toArray.all f = true) : x.toList.all f = true := by
  cases x with
  | none => rfl
  | some x => simpa using h

theorem list_map_one {α β : Type} {f : α → β} {l : List α} {y : β} (h : l.map f = [y]) : ∃ x, l = [x] ∧ f x = y := by
  cases l with
  | nil => cases h
  | cons x l => cases l with
    | nil => simp at h; exact ⟨x, rfl, h⟩
    | cons _ _ => simp at h
theorem list_map_two {α β : Type} {f : α → β} {l : List α} {y z : β} (h : l.map f = [y, z]) : ∃ x x', l = [x, x'] ∧ f x = y ∧ f x' = z := by
  cases l with
  | nil => cases h
  | cons x l =>
    simp at h
    obtain ⟨h1, x', rfl, hx⟩ := h
    exact ⟨x, x', rfl, h1, hx⟩

theorem run_builtin {c : Call} {b : Builtin} (hc : c.callee = .builtin b) {o : Oper} (ho : o.op = .call c) {a : Act} :
    execOp a.eval o = builtin b c.argTypes o.type (c.args.map fun | .const _ => true | _ => false) (c.args.map a.eval) := by
  simp only [execOp, ho, resolve, hc]
  rfl

theorem run_evV {E : Env} {a : Act} {nt : Nat} {o : Oper} {v : V} (r : ERel P φ E a nt) (ho : o.op.operands.all (okOp nt) = true) (R : Rel P φ h w) (he : evV P E h o = some v) :
    ∃ z, (execOp a.eval o).run P w = .ok (.value z) w ∧ relV P φ v z := by
  unfold evV at he
  split at he
  case h_1 x hop => rw [hop] at ho; simp [Op.operands] at ho; cases he; exact ⟨_, by simp [execOp, hop], opv_rel r ho⟩
  case h_2 x hop => rw [hop] at ho; simp [Op.operands] at ho; cases he; exact ⟨_, by simp [execOp, hop], opv_rel r ho⟩
  case h_3 c x y hop =>
    rw [hop] at ho; simp [Op.operands] at ho
    split at he
    · rename_i t ht
      cases he
      have hc := opv_rel r ho.1
      rw [ht] at hc
      have hc' := relV_B.1 hc
      refine ⟨_, by simp [execOp, hop, hc', asBool]; rfl, ?_⟩
      cases t
      · exact opv_rel r ho.2.2
      · exact opv_rel r ho.2.1
    · cases he
  case h_4 t x hop =>
    rw [hop] at ho; simp [Op.operands] at ho
    split at he
    · rename_i k hk
      obtain ⟨z, hz, rz⟩ := run_ld hk R he (opv_rel r ho)
      exact ⟨z, by simp only [execOp, hop]; exact run_v _ hz, rz⟩
    · cases he
  case h_5 x hop =>
    rw [hop] at ho; simp [Op.operands] at ho
    obtain ⟨h1, h2⟩ := run_nilc (w := w) hop rfl he (opv_rel r ho)
    exact ⟨_, h1, h2⟩
  case h_6 op t x y yt hop =>
    rw [hop] at ho; simp [Op.operands] at ho
    obtain ⟨z, hz, rz⟩ := run_bin (w := w) (xo := x) (yo := y) he (opv_rel r ho.1) (opv_rel r ho.2)
    exact ⟨z, by simp only [execOp, hop]; exact run_v _ hz, rz⟩
  case h_7 op t x hop =>
    rw [hop] at ho; simp [Op.operands] at ho
    obtain ⟨z, hz, rz⟩ := run_una (w := w) he (opv_rel r ho)
    exact ⟨z, by simp only [execOp, hop]; exact run_v _ hz, rz⟩
  case h_8 src dst x hop =>
    rw [hop] at ho; simp [Op.operands] at ho
    obtain ⟨z, hz, rz⟩ := run_cnv (w := w) he (opv_rel r ho)
    exact ⟨z, by simp only [execOp, hop]; exact run_v _ hz, rz⟩
  case h_9 t x hop =>
    rw [hop] at ho; simp [Op.operands] at ho
    split at he
    · cases he
    · rename_i d hni hu
      have rx := opv_rel r ho
      have hv : v = .If t (opv E x) ∧ ∃ ds, relC P φ (opv E x) ds ∧ a.eval x = pack (opv E x) ds := by
        unfold mkIf at he
        split at he
        · cases he
        · rename_i v' hnt
          simp only [Option.some.injEq] at he
          refine ⟨he.symm, ?_⟩
          rcases rx with h | h
          · exact h
          · cases hx : opv E x <;> rw [hx] at h <;> first | (simp only [relT] at h; done) | (exact absurd hx (hnt _))
      obtain ⟨rfl, ds, rd, hd⟩ := hv
      refine ⟨.iface t (a.eval x), ?_, relV_If.2 ⟨_, ds, rfl, rd, hd⟩⟩
      simp only [execOp, hop]
      refine run_v _ ?_
      simp only [Instr.makeInterface, Sem.run_bind, run_underlying hu, Result.andThen_ok]
      cases d <;> first | rfl | (exact absurd hu (hni _))
    · cases he
  case h_10 fn first cap hop =>
    rw [hop] at ho
    simp only [Op.operands, Array.all_append, Bool.and_eq_true] at ho
    cases he
    refine ⟨_, by simp only [execOp, hop, Instr.makeFunc]; rfl, relV_Fn.2 ⟨first.toList.map a.eval, cap.toList.map a.eval, ?_, opvs_rel r (by simpa using ho.1), opvs_rel r (by simpa using ho.2)⟩⟩
    congr 1 <;> (apply Array.ext'; simp)
  case h_11 t x lo hi mx hop =>
    rw [hop] at ho
    simp only [Op.operands, Array.all_append, Bool.and_eq_true] at ho
    obtain ⟨⟨⟨h0, h1⟩, h2⟩, h3⟩ := ho
    obtain ⟨z, hz, rz⟩ := run_slcOf (w := w) he (opv_rel r (by simpa using h0)) (relO_map r (optAll h1)) (relO_map r (optAll h2)) (relO_map r (optAll h3))
    exact ⟨z, by simp only [execOp, hop]; exact run_v _ hz, rz⟩
  case h_12 s x f hop =>
    rw [hop] at ho; simp [Op.operands] at ho
    obtain ⟨z, hz, rz⟩ := run_fldAOf (w := w) he (opv_rel r ho)
    exact ⟨z, by simp only [execOp, hop]; exact run_v _ hz, rz⟩
  case h_13 t x f hop =>
    rw [hop] at ho; simp [Op.operands] at ho
    obtain ⟨z, hz, rz⟩ := run_fldOf (w := w) he (opv_rel r ho)
    exact ⟨z, by simp only [execOp, hop]; exact run_v _ hz, rz⟩
  case h_14 t x ix hop =>
    rw [hop] at ho; simp [Op.operands] at ho
    obtain ⟨z, hz, rz⟩ := run_idxAOf (w := w) he (opv_rel r ho.1) (opv_rel r ho.2)
    exact ⟨z, by simp only [execOp, hop]; exact run_v _ hz, rz⟩
  case h_15 t x ix hop =>
    rw [hop] at ho; simp [Op.operands] at ho
    obtain ⟨z, hz, rz⟩ := run_idxOf (w := w) he (opv_rel r ho.1) (opv_rel r ho.2)
    exact ⟨z, by simp only [execOp, hop]; exact run_v _ hz, rz⟩
  case h_16 t m k ok hop =>
    rw [hop] at ho; simp [Op.operands] at ho
    split at he
    · rename_i z0 hz0
      obtain ⟨z, hz, rz⟩ := run_lkp hz0 R he (opv_rel r ho.1) (opv_rel r ho.2)
      exact ⟨z, by simp only [execOp, hop]; exact run_v _ hz, rz⟩
    · split at he
      · rename_i a0 z0 hz0
        obtain ⟨z, hz, rz⟩ := run_lkpA hz0 R he (opv_rel r ho.1) (opv_rel r ho.2)
        exact ⟨z, by simp only [execOp, hop]; exact run_v _ hz, rz⟩
      · cases he
  case h_17 x xt t ok hop =>
    rw [hop] at ho; simp [Op.operands] at ho
    obtain ⟨z, hz, rz⟩ := run_tasOf (w := w) (xt := xt) he (opv_rel r ho)
    exact ⟨z, by simp only [execOp, hop]; exact run_v _ hz, rz⟩
  case h_18 x i hop =>
    rw [hop] at ho; simp [Op.operands] at ho
    obtain ⟨z, hz, rz⟩ := run_ext (w := w) he (opv_rel r ho)
    exact ⟨z, by simp only [execOp, hop]; exact run_v _ hz, rz⟩
  case h_19 t ps hop =>
    rw [hop] at ho
    obtain ⟨z, hz, rz⟩ := run_buildOf (w := w) r he (by simpa [Op.operands, List.all_map, Function.comp_def] using ho)
    refine ⟨z, ?_, rz⟩
    simp only [execOp, hop]
    refine run_v _ ?_
    have : (ps.map fun (x : Nat × Operand) => (x.1, a.eval x.2)) = (ps.toList.map fun (x : Nat × Operand) => (x.1, a.eval x.2)).toArray := by apply Array.ext'; simp
    have e2 : (ps.map fun (i, x) => (i, a.eval x)) = (ps.toList.map fun (i, x) => (i, a.eval x)).toArray := this
    rw [e2]
    exact hz
  case h_20 c hop =>
    rw [hop] at ho
    have hargs : c.args.toList.all (okOp nt) = true := by
      simp only [Op.operands, Call.operands, Array.all_append, Bool.and_eq_true] at ho
      simpa using ho.2
    split at he
    · rename_i hcal
      rw [run_builtin hcal hop]
      split at he
      · rename_i t x ht hx
        have hx' : c.args.toList[0]? = some x := by simpa using hx
        have hxm : okOp nt x = true := by
          have := List.all_eq_true.1 hargs x (List.mem_of_getElem? hx')
          exact this
        have rx := opv_rel r hxm
        have hax : (c.args.map a.eval)[0]? = some (a.eval x) := by simp [hx]
        split at he
        · rename_i e hu
          simp only [Option.map_eq_some_iff] at he
          obtain ⟨n, hn, rfl⟩ := he
          refine ⟨.int .i64 n, ?_, relV_I.2 rfl⟩
          refine run_v _ ?_
          simp only [Builtin.len_, ht, hax, Sem.run_bind, run_underlying hu, Result.andThen_ok]
          cases hv : opv E x <;> rw [hv] at hn rx <;> first | (simp [lenS] at hn; done) | skip
          · simp [lenS] at hn; subst hn
            obtain ⟨_, _, hxe⟩ := relV_Lany rx
            rw [hxe]; rfl
          · simp [lenS] at hn; subst hn
            rw [relV_L0.1 rx]; rfl
        · rename_i hu
          split at he
          · rename_i s hs
            cases he
            rw [hs] at rx
            refine ⟨.int .i64 s.size, ?_, relV_I.2 rfl⟩
            refine run_v _ ?_
            simp only [Builtin.len_, ht, hax, Sem.run_bind, run_underlying hu, Result.andThen_ok]
            rw [relV_S.1 rx]; rfl
          · cases he
        · rename_i n e hu
          cases he
          refine ⟨.int .i64 n, ?_, relV_I.2 rfl⟩
          refine run_v _ ?_
          simp only [Builtin.len_, ht, hax, Sem.run_bind, run_underlying hu, Result.andThen_ok]
          rfl
        · cases he
      · cases he
    · rename_i hcal
      rw [run_builtin hcal hop]
      cases hl : c.args.toList with
      | nil => simp [hl, minI] at he
      | cons x xs =>
        rw [hl] at he hargs
        simp only [List.map_cons] at he
        cases hv : opv E x <;> rw [hv] at he <;> first | (simp [minI] at he; done) | skip
        rename_i k n
        simp only [minI] at he
        simp only [List.all_cons, Bool.and_eq_true] at hargs
        have rx := opv_rel r hargs.1
        rw [hv] at rx
        obtain ⟨z, hz, rz⟩ := run_minGo (w := w) (g := Builtin.min2) (f := fun m n => decide (m < n)) (fun k n m => by simp [Builtin.min2]) he (opvs_rel r hargs.2)
        refine ⟨z, ?_, rz⟩
        refine run_v _ ?_
        have : (c.args.map a.eval).toList = a.eval x :: xs.map a.eval := by simp [hl]
        simp only [Builtin.min_, this]
        rw [relV_I.1 rx]; exact hz
    · rename_i hcal
      rw [run_builtin hcal hop]
      cases hl : c.args.toList with
      | nil => simp [hl, minI] at he
      | cons x xs =>
        rw [hl] at he hargs
        simp only [List.map_cons] at he
        cases hv : opv E x <;> rw [hv] at he <;> first | (simp [minI] at he; done) | skip
        rename_i k n
        simp only [minI] at he
        simp only [List.all_cons, Bool.and_eq_true] at hargs
        have rx := opv_rel r hargs.1
        rw [hv] at rx
        obtain ⟨z, hz, rz⟩ := run_minGo (w := w) (g := Builtin.max2) (f := fun m n => decide (m > n)) (fun k n m => by simp [Builtin.max2]) he (opvs_rel r hargs.2)
        refine ⟨z, ?_, rz⟩
        refine run_v _ ?_
        have : (c.args.map a.eval).toList = a.eval x :: xs.map a.eval := by simp [hl]
        simp only [Builtin.max_, this]
        rw [relV_I.1 rx]; exact hz
    · rename_i hcal
      rw [run_builtin hcal hop]
      split at he
      · rename_i k n m hl
        cases he
        obtain ⟨x, hx, hv⟩ := list_map_one hl
        have rx := opv_rel r (x := x) (by rw [hx] at hargs; simpa using hargs)
        rw [hv] at rx
        have hc : c.args.map a.eval = #[a.eval x] := by apply Array.ext'; simp [hx]
        refine ⟨.float k n, ?_, relV_F.2 rfl⟩
        refine run_v _ ?_
        rw [hc, relV_X.1 rx]; rfl
      · cases he
    · rename_i hcal
      rw [run_builtin hcal hop]
      split at he
      · rename_i k n m hl
        cases he
        obtain ⟨x, hx, hv⟩ := list_map_one hl
        have rx := opv_rel r (x := x) (by rw [hx] at hargs; simpa using hargs)
        rw [hv] at rx
        have hc : c.args.map a.eval = #[a.eval x] := by apply Array.ext'; simp [hx]
        refine ⟨.float k m, ?_, relV_F.2 rfl⟩
        refine run_v _ ?_
        rw [hc, relV_X.1 rx]; rfl
      · cases he
    · rename_i hcal
      rw [run_builtin hcal hop]
      split at he
      · rename_i k n k' m hl
        split at he
        · rename_i hkk; subst hkk
          cases he
          obtain ⟨x, x', hx, hv, hv'⟩ := list_map_two hl
          rw [hx] at hargs
          simp only [List.all_cons, Bool.and_eq_true] at hargs
          have rx := opv_rel r hargs.1
          have rx' := opv_rel r hargs.2.1
          rw [hv] at rx; rw [hv'] at rx'
          have hc : c.args.map a.eval = #[a.eval x, a.eval x'] := by apply Array.ext'; simp [hx]
          refine ⟨.complex k n m, ?_, relV_X.2 rfl⟩
          refine run_v _ ?_
          rw [hc, relV_F.1 rx, relV_F.1 rx']
          show (if k = k then (pure (Value.complex k n m) : Sem Value) else stuck _).run P w = _
          rw [if_pos rfl]; rfl
        · cases he
      · cases he
    · cases he
  case h_21 => cases he

/-- What is called is there. -/
def CallOk (P : Program) (call : CallT) : Prop := ∀ f args h r, call f args h = some r → ∃ fn, P.funcs[f]? = some fn ∧ fn.body.isSome = true ∧ (fn.name == "runtime.NumGoroutine") = false

theorem run_callFunc {f : FuncId} {fn : Func} (hf : P.funcs[f]? = some fn) (hb : fn.body.isSome = true) (hn : (fn.name == "runtime.NumGoroutine") = false) (args : Array Value) : (callFunc f args).run P w = .ok (.enter f args) w := by
  have hb' : fn.body.isNone = false := by cases h : fn.body <;> simp_all
  simp only [callFunc, Sem.run_bind, run_program, Result.andThen_ok, hf, hn, hb', Bool.false_eq_true, if_false]
  rfl

/-- How an act comes out: a value, nothing, or a call. -/
def Acts (P : Program) (φ : Phi) (call : CallT) (h : H) (w : World) (v : V) (h' : H) (r : Result Next) : Prop :=
  (∃ z w' φ', r = .ok (.value z) w' ∧ Rel P φ' h' w' ∧ Keep φ h w φ' h' w' ∧ relV P φ' v z) ∨
  (∃ w' φ', r = .ok .skip w' ∧ v = dd ∧ Rel P φ' h' w' ∧ Keep φ h w φ' h' w') ∨
  (∃ f vs xs, r = .ok (.enter f (List.toArray xs)) w ∧ call f vs h = some (v, h') ∧ relVs P φ vs xs)

theorem run_u (s : Sem Unit) {w' : World} (hs : s.run P w = .ok () w') : (do s; pure .skip : Sem Next).run P w = .ok .skip w' := by
  simp [hs]

theorem run_evE {call : CallT} (hC : CallOk P call) {E : Env} {a : Act} {nt : Nat} {o : Oper} {v : V} {h' : H} (r : ERel P φ E a nt) (ho : o.op.operands.all (okOp nt) = true) (R : Rel P φ h w) (hf : Fresh φ h.next h'.next)
    (he : evE P call E h o = some (v, h')) : Acts P φ call h w v h' ((execOp a.eval o).run P w) := by
  unfold evE at he
  split at he
  case h_1 t x y hop =>
    rw [hop] at ho; simp [Op.operands] at ho
    split at he
    · rename_i k hk
      simp only [Option.map_eq_some_iff, Prod.mk.injEq] at he
      obtain ⟨h1, hs, rfl, rfl⟩ := he
      obtain ⟨w', hw, R', K'⟩ := run_sto hk R hs (opv_rel r ho.1) (opv_rel r ho.2)
      exact .inr (.inl ⟨w', φ, by simp only [execOp, hop]; exact run_u _ hw, rfl, R', K'⟩)
    · cases he
  case h_2 t m k x hop =>
    rw [hop] at ho; simp [Op.operands] at ho
    split at he
    · rename_i kt et hu
      split at he
      · rename_i kk ke hk hke
        split at he
        · simp only [Option.map_eq_some_iff, Prod.mk.injEq] at he
          obtain ⟨h1, hs, rfl, rfl⟩ := he
          obtain ⟨w', hw, R', K'⟩ := run_mup hu hk R hs (opv_rel r ho.1) (opv_rel r ho.2.1) (opv_rel r ho.2.2)
          exact .inr (.inl ⟨w', φ, by simp only [execOp, hop]; exact run_u _ hw, rfl, R', K'⟩)
        · cases he
      · rename_i hk hke
        split at he
        · rename_i a0 ha0
          split at he
          · simp only [Option.map_eq_some_iff, Prod.mk.injEq] at he
            obtain ⟨h1, hs, rfl, rfl⟩ := he
            obtain ⟨w', hw, R', K'⟩ := run_mupA hu ha0 R hs (opv_rel r ho.1) (opv_rel r ho.2.1) (opv_rel r ho.2.2)
            exact .inr (.inl ⟨w', φ, by simp only [execOp, hop]; exact run_u _ hw, rfl, R', K'⟩)
          · cases he
        · cases he
      · cases he
    · cases he
  case h_3 t m k x hop =>
    rw [hop] at ho; simp [Op.operands] at ho
    split at he
    · rename_i kt et hu
      split at he
      · rename_i kk ke hk hke
        split at he
        · simp only [Option.map_eq_some_iff, Prod.mk.injEq] at he
          obtain ⟨h1, hs, rfl, rfl⟩ := he
          obtain ⟨w', hw, R', K'⟩ := run_mup hu hk R hs (opv_rel r ho.1) (opv_rel r ho.2.1) (opv_rel r ho.2.2)
          exact .inr (.inl ⟨w', φ, by simp only [execOp, hop]; exact run_u _ hw, rfl, R', K'⟩)
        · cases he
      · rename_i hk hke
        split at he
        · rename_i a0 ha0
          split at he
          · simp only [Option.map_eq_some_iff, Prod.mk.injEq] at he
            obtain ⟨h1, hs, rfl, rfl⟩ := he
            obtain ⟨w', hw, R', K'⟩ := run_mupA hu ha0 R hs (opv_rel r ho.1) (opv_rel r ho.2.1) (opv_rel r ho.2.2)
            exact .inr (.inl ⟨w', φ, by simp only [execOp, hop]; exact run_u _ hw, rfl, R', K'⟩)
          · cases he
        · cases he
      · cases he
    · cases he
  case h_4 c hop =>
    rw [hop] at ho
    have hargs : c.args.toList.all (okOp nt) = true := by
      simp only [Op.operands, Call.operands, Array.all_append, Bool.and_eq_true] at ho
      simpa using ho.2
    split at he
    · rename_i f hcal
      have hfo : okOp nt f = true := by
        simp only [Op.operands, Call.operands, Array.all_append, Bool.and_eq_true, hcal] at ho
        simpa using ho.1
      have rf := opv_rel r hfo
      split at he
      · rename_i g first cap hfv
        rw [hfv] at rf
        obtain ⟨xs, ys, hfe, r1, r2⟩ := relV_Fn.1 rf
        obtain ⟨fn, hfn, hb, hn⟩ := hC _ _ _ _ he
        refine .inr (.inr ⟨g, _, xs ++ c.args.toList.map a.eval ++ ys, ?_, he, relVs_append (relVs_append r1 (opvs_rel r hargs)) r2⟩)
        simp only [execOp, hop, resolve, hcal, hfe, Deferred.ofValue, Sem.run_bind, Sem.run_pure, Result.andThen_ok, invoke]
        rw [run_callFunc hfn hb hn]
        congr 1
        congr 1
        apply Array.ext'
        simp
      · cases he
    · rename_i recv name hcal
      have hro : okOp nt recv = true := by
        simp only [Op.operands, Call.operands, Array.all_append, Bool.and_eq_true, hcal] at ho
        simpa using ho.1
      have rr := opv_rel r hro
      split at he
      · rename_i t rv hrv
        rw [hrv] at rr
        obtain ⟨y, ds, hre, rd, hy⟩ := relV_If.1 rr
        split at he
        · rename_i f hm
          obtain ⟨fn, hfn, hb, hn⟩ := hC _ _ _ _ he
          refine .inr (.inr ⟨f, _, y :: c.args.toList.map a.eval, ?_, he, relVs_cons.2 ⟨y, _, rfl, relV_of_pack rd hy, opvs_rel r hargs⟩⟩)
          have hmeth : ∀ fuel, (method (fuel + 1) t y name).run P w = .ok (f, y) w := by
            intro fuel
            unfold methodOf at hm
            split at hm
            · rename_i i hi
              split at hm
              · rename_i m hfind
                split at hm
                · rename_i hpath
                  have hp0 : m.path.toList = [] := by simpa using hpath
                  have hfind' : Array.find? (fun (x : Method) => x.name == name) i.methods = some m := hfind
                  split at hm
                  · rename_i f' e hmf hu
                    cases hm
                    simp only [method, Sem.run_bind, run_typeInfo w hi, Result.andThen_ok, hfind', hp0, follow, Sem.run_pure, hmf, receiverAt, run_underlying hu, Place.get]
                  · cases hm
                  · rename_i f' d hnp hmf hu
                    cases hm
                    simp only [method, Sem.run_bind, run_typeInfo w hi, Result.andThen_ok, hfind', hp0, follow, Sem.run_pure, hmf, receiverAt, run_underlying hu]
                    cases d <;> first | (exact absurd hu (hnp _)) | rfl
                  · cases hm
                · cases hm
              · cases hm
            · cases hm
          have hpos : 0 < Made.depth := by decide
          obtain ⟨fuel, hfuel⟩ : ∃ fuel, P.types.size + Made.depth = fuel + 1 := ⟨P.types.size + Made.depth - 1, by omega⟩
          simp only [execOp, hop, resolve, hcal, hre, Sem.run_bind, Sem.run_pure, Result.andThen_ok, invoke]
          have h0 : (#[Value.iface t y] ++ c.args.map a.eval)[0]? = some (.iface t y) := by rw [Array.getElem?_append_left (Nat.zero_lt_one)]; rfl
          simp only [h0, callMethod, Sem.run_bind, run_program, Result.andThen_ok, hfuel, hmeth]
          rw [run_callFunc hfn hb hn]
          congr 1
          congr 1
          apply Array.ext'
          simp
          rw [List.take_of_length_le (by simp)]
        · cases he
      · cases he
    · rename_i hcal
      rw [run_builtin hcal hop]
      split at he
      · rename_i t u x y hts hxs
        split at he
        · rename_i e e' ht hu
          split at he
          · rename_i k z hk hz
            split at he
            · cases he
            · rename_i hb
              rw [hxs] at hargs
              simp only [List.all_cons, Bool.and_eq_true] at hargs
              have T : AppT P t u e k := ⟨ht, ⟨e', hu⟩, hk, ⟨z, hz⟩, fun h => hb (.inl h), by
                have : ¬ 1048576 < P.bytesOf e := fun h => hb (.inr h)
                omega⟩
              obtain ⟨q, w', φ', h1, h2, h3, h4⟩ := run_app (ty := o.type) T R he (opv_rel r hargs.1) (opv_rel r hargs.2.1) hf
              refine .inl ⟨q, w', φ', ?_, h2, h3, h4⟩
              have e1 : c.argTypes = #[t, u] := by apply Array.ext'; simp [hts]
              have e2 : c.args.map a.eval = #[a.eval x, a.eval y] := by apply Array.ext'; simp [hxs]
              rw [e1, e2]
              exact run_v _ h1
          · cases he
        · cases he
      · cases he
    · rename_i hcal
      rw [run_builtin hcal hop]
      split at he
      · rename_i t u x y hts hxs
        split at he
        · rename_i e e' ht hu
          split at he
          · rename_i k hk
            rw [hxs] at hargs
            simp only [List.all_cons, Bool.and_eq_true] at hargs
            obtain ⟨q, w', h1, h2, h3, h4⟩ := run_cpy (u := u) (ty := o.type) ht hk R he (opv_rel r hargs.1) (opv_rel r hargs.2.1)
            refine .inl ⟨q, w', φ, ?_, h2, h3, h4⟩
            have e1 : c.argTypes = #[t, u] := by apply Array.ext'; simp [hts]
            have e2 : c.args.map a.eval = #[a.eval x, a.eval y] := by apply Array.ext'; simp [hxs]
            rw [e1, e2]
            exact run_v _ h1
          · cases he
        · cases he
      · cases he
    · rename_i hcal
      rw [run_builtin hcal hop]
      split at he
      · rename_i t ts m k hts hxs
        split at he
        · rename_i kt et hu
          split at he
          · rename_i kk hk
            simp only [Option.map_eq_some_iff, Prod.mk.injEq] at he
            obtain ⟨h1, hs, rfl, rfl⟩ := he
            rw [hxs] at hargs
            simp only [List.all_cons, Bool.and_eq_true] at hargs
            have hts' : c.argTypes[0]? = some t := by
              have : c.argTypes.toList[0]? = some t := by rw [hts]; rfl
              simpa using this
            obtain ⟨w', hw, R', K'⟩ := run_mdel (ty := o.type) hts' hu hk R hs (opv_rel r hargs.1) (opv_rel r hargs.2.1)
            refine .inl ⟨_, w', φ, ?_, R', K', relV_dd⟩
            have e2 : c.args.map a.eval = #[a.eval m, a.eval k] := by apply Array.ext'; simp [hxs]
            rw [e2]
            exact run_v _ hw
          · cases he
        · cases he
      · cases he
    · rename_i hcal
      rw [run_builtin hcal hop]
      split at he
      · rename_i t ts m hts hxs
        split at he
        · rename_i kt et hu
          simp only [Option.map_eq_some_iff, Prod.mk.injEq] at he
          obtain ⟨h1, hs, rfl, rfl⟩ := he
          rw [hxs] at hargs
          simp only [List.all_cons, Bool.and_eq_true] at hargs
          have hts' : c.argTypes[0]? = some t := by
            have : c.argTypes.toList[0]? = some t := by rw [hts]; rfl
            simpa using this
          obtain ⟨w', hw, R', K'⟩ := run_mclr (ty := o.type) hts' hu R hs (opv_rel r hargs.1)
          refine .inl ⟨_, w', φ, ?_, R', K', relV_dd⟩
          have e2 : c.args.map a.eval = #[a.eval m] := by apply Array.ext'; simp [hxs]
          rw [e2]
          exact run_v _ hw
        · cases he
      · cases he
    · cases he
  case h_5 => cases he

end
end Go.Proofs.YtnnebakkcdclmaaGreat.AM
