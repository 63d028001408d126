/-
  Proved here, for every program: a part of the soundness of an abstract machine against the model: lemmas. Conditions: none.
-/
import Derived.Test.YtnnebakkcdclmaaGreatAMOps
namespace Go.Proofs.YtnnebakkcdclmaaGreat.AM
section
variable {P : Program} {φ : Phi} {w : World}

theorem binKind_like {t : TypeId} {q : QK} (h : binKind P t = .like q) : ∃ d, P.underlying t = some d ∧ q.fits d := by
  unfold binKind at h
  split at h
  all_goals first
    | (cases h; refine ⟨_, by assumption, ?_⟩; trivial)
    | (exact absurd h (by intro e; cases e))

def plainEq : Value → Bool
  | .int .. | .float .. | .complex .. | .string .. => false
  | _ => true

theorem binOp_eql {t : TypeId} {a b : Value} (h : plainEq a = true) : binOp .eql t a b = (do pure (.bool (← Op.equal t a b))) := by
  cases a <;> simp [plainEq] at h <;> cases b <;> rfl
theorem binOp_neq {t : TypeId} {a b : Value} (h : plainEq a = true) : binOp .neq t a b = (do pure (.bool (!(← Op.equal t a b)))) := by
  cases a <;> simp [plainEq] at h <;> cases b <;> rfl

theorem same_plain {q : QK} {x y : V} {r : Bool} {a : Value} (h : same q x y = some r) (ra : relV P φ x a) : plainEq a = true := by
  cases q <;> cases x <;> cases y <;> first | (simp [same] at h; done) | skip
  all_goals first
    | (obtain rfl := relV_B.1 ra; rfl) | (obtain rfl := relV_P0.1 ra; rfl) | (obtain rfl := relV_L0.1 ra; rfl) | (obtain rfl := relV_M0.1 ra; rfl)
    | (obtain rfl := relV_Fn0.1 ra; rfl) | (obtain rfl := relV_If0.1 ra; rfl)
    | (obtain ⟨l, _, rfl⟩ := relV_P.1 ra; rfl) | (obtain ⟨l, _, rfl⟩ := relV_M.1 ra; rfl) | (obtain ⟨_, _, rfl⟩ := relV_Lany ra; rfl)
    | (obtain ⟨_, _, rfl, _⟩ := relV_Fn.1 ra; rfl) | (obtain ⟨_, _, rfl, _⟩ := relV_If.1 ra; rfl)

theorem run_bin {op : BinOp} {t : TypeId} {xo yo : Operand} {x y v : V} {a b : Value} (h : bin P op t x y = some v) (ra : relV P φ x a) (rb : relV P φ y b) :
    ∃ z, (do eqGuard op t xo yo a b; binOp op t a b).run P w = .ok z w ∧ relV P φ v z := by
  unfold bin at h
  split at h
  · exact run_ints h ra rb
  · rename_i q hq
    obtain ⟨d, hd, hf⟩ := binKind_like hq
    simp only [eqs] at h
    split at h
    · simp only [Option.map_eq_some_iff] at h
      obtain ⟨r, hr, rfl⟩ := h
      obtain ⟨h1, h2, h3⟩ := run_same (w := w) hd hf hr ra rb
      simp only [Sem.run_bind, run_eqGuard _ t xo yo a b h2 h3, Result.andThen_ok]
      refine ⟨.bool r, ?_, relV_B.2 rfl⟩
      rw [binOp_eql (same_plain hr ra)]
      simp [h1]
    · simp only [Option.map_eq_some_iff] at h
      obtain ⟨r, hr, rfl⟩ := h
      obtain ⟨h1, h2, h3⟩ := run_same (w := w) hd hf hr ra rb
      simp only [Sem.run_bind, run_eqGuard _ t xo yo a b h2 h3, Result.andThen_ok]
      refine ⟨.bool !r, ?_, relV_B.2 rfl⟩
      rw [binOp_neq (same_plain hr ra)]
      simp [h1]
    · cases h
  · unfold nums at h
    split at h
    · rename_i a' b' ha hb
      obtain rfl := valF_rel ha ra
      obtain rfl := valF_rel hb rb
      simp only [Option.bind_eq_some_iff] at h
      obtain ⟨z, hz, hv⟩ := h
      refine ⟨z, ?_, ofVal_rel hv⟩
      have hg : (eqGuard op t xo yo a b).run P w = .ok () w := by
        refine run_eqGuard op t xo yo a b ?_ ?_
        · intro c e; subst e; cases x <;> simp [valF] at ha
        · intro e _; subst e; cases x <;> simp [valF] at ha
      simp only [Sem.run_bind, hg, Result.andThen_ok]
      exact pure?_run _ hz
    · cases h
  · cases h

theorem run_una {op : UnOp} {x v : V} {a : Value} (h : una op x = some v) (ra : relV P φ x a) : ∃ z, (Op.unary op a).run P w = .ok z w ∧ relV P φ v z := by
  cases op <;> cases x <;> first | (simp [una] at h; done) | skip
  all_goals simp only [una, Option.some.injEq] at h; subst h
  · obtain rfl := relV_I.1 ra
    exact ⟨_, by simp only [Op.unary, Op.intArith]; rfl, relV_I.2 rfl⟩
  · obtain rfl := relV_F.1 ra
    exact ⟨_, by simp only [Op.unary]; rfl, relV_F.2 rfl⟩
  · obtain rfl := relV_X.1 ra
    exact ⟨_, by simp only [Op.unary]; rfl, relV_X.2 rfl⟩
  · obtain rfl := relV_B.1 ra
    exact ⟨_, by simp only [Op.unary]; rfl, relV_B.2 rfl⟩

theorem run_cnv {src dst : TypeId} {x v : V} {a : Value} (h : cnv P src dst x = some v) (ra : relV P φ x a) : ∃ z, (convert src dst a).run P w = .ok z w ∧ relV P φ v z := by
  unfold cnv at h
  split at h
  · rename_i hs hd
    obtain rfl := relV_I.1 ra
    cases h
    exact ⟨_, by simp [convert, run_underlying hs, run_underlying hd, Conv.intToInt], relV_I.2 rfl⟩
  · rename_i hs hd
    obtain rfl := relV_I.1 ra
    cases h
    exact ⟨_, by simp [convert, run_underlying hs, run_underlying hd, Conv.intToFloat], relV_F.2 rfl⟩
  · rename_i k' k s c hs hd
    obtain rfl := relV_F.1 ra
    split at h
    · rename_i n hn
      split at h
      · rename_i hr
        cases h
        refine ⟨.int k n, ?_, relV_I.2 rfl⟩
        simp only [convert, Sem.run_bind, run_underlying hs, run_underlying hd, Result.andThen_ok]
        simp only [Conv.floatToInt, hn, if_pos hr]
        rfl
      · cases h
    · cases h
  · cases h

def relO (P : Program) (φ : Phi) : Option V → Option Value → Prop
  | none, none => True
  | some v, some x => relV P φ v x
  | _, _ => False

theorem relO_int {v : Option V} {x : Option Value} {n : Option Int} (h : optInt v = some n) (r : relO P φ v x) : (n = none ∧ x = none) ∨ ∃ k m, n = some m ∧ x = some (.int k m) := by
  cases v with
  | none => cases x with
    | none => simp [optInt] at h; exact .inl ⟨h.symm, rfl⟩
    | some x => exact r.elim
  | some v => cases x with
    | none => exact r.elim
    | some x =>
      cases v <;> first | (simp [optInt] at h; done) | skip
      rename_i k m
      simp [optInt] at h
      obtain rfl := relV_I.1 r
      exact .inr ⟨k, m, h.symm, rfl⟩

theorem run_sliceBounds {n c cc : Nat} {vl vh vm : Option V} {xl xh xm : Option Value} {lo hi mx : Option Int} {l h m : Nat} (hb : bnds n c lo hi mx = some (l, h, m))
    (el : optInt vl = some lo) (eh : optInt vh = some hi) (em : optInt vm = some mx) (rl : relO P φ vl xl) (rh : relO P φ vh xh) (rm : relO P φ vm xm) (hc : c ≤ cc) (b : Bool) :
    (Instr.sliceBounds b n cc xl xh xm).run P w = .ok (l, h, if mx.isSome then m else cc) w ∧ l ≤ h ∧ h ≤ m ∧ m ≤ c ∧ (mx = none → m = c) := by
  simp only [bnds, Option.ite_none_right_eq_some, Option.some.injEq, Prod.mk.injEq] at hb
  obtain ⟨⟨h0, h1, h2, h3, h4⟩, rfl, rfl, rfl⟩ := hb
  rcases relO_int el rl with ⟨rfl, rfl⟩ | ⟨kl, nl, rfl, rfl⟩ <;> rcases relO_int eh rh with ⟨rfl, rfl⟩ | ⟨kh, nh, rfl, rfl⟩ <;> rcases relO_int em rm with ⟨rfl, rfl⟩ | ⟨km, nm, rfl, rfl⟩
  all_goals first
    | (exfalso; simp at h4; done)
    | (try simp only [Option.getD_some, Option.getD_none] at h0
       try simp only [Option.getD_some, Option.getD_none] at h1
       try simp only [Option.getD_some, Option.getD_none] at h2
       try simp only [Option.getD_some, Option.getD_none] at h3
       refine ⟨?_, by simp; try omega, by simp; try omega, by simp; try omega, by simp⟩
       simp only [Instr.sliceBounds, Instr.sliceBound, asIntOf, Sem.run_bind, Sem.run_pure, Result.andThen_ok]
       try rw [if_pos (by constructor <;> omega)]
       try simp only [Sem.run_pure, Result.andThen_ok]
       try rw [if_pos (by constructor <;> omega)]
       try simp only [Sem.run_pure, Result.andThen_ok]
       try rw [if_pos (by constructor <;> omega)]
       try simp)

end
end Go.Proofs.YtnnebakkcdclmaaGreat.AM
