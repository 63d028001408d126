/-
  HierNil: whatever the act, the law returns true; what came in reads as it did. Conditions: none.
-/
import Derived.Test.YtnnebakkcdclmaaGreatRows
import Derived.ProofKit
import Derived.Test.YtnnebakkcdclmaaGreatAMGlue
import Derived.Test.YtnnebakkcdclmaaGreatAMFrame
import Derived.Test.YtnnebakkcdclmaaGreatHWake
import Derived.Test.YtnnebakkcdclmaaGreatHFacts
namespace Go.Proofs.YtnnebakkcdclmaaGreat.AM
open Go.Proofs Go.Proofs.YtnnebakkcdclmaaGreat Go.ChangeShapes Go.RowKit
set_option maxRecDepth 100000
section
variable {P : Program} {φ : Phi}
theorem relF_leaf {v : V} {vs : List V} {f : Field} {fs : List Field} {off : Nat} {c : Value} {cs : List Value} (h1 : f.offset = off) (h2 : P.cellsOf f.type = 1) (h3 : relC P φ v [c]) (h4 : relF P φ vs fs (off + 1) cs) : relF P φ (v :: vs) (f :: fs) off (c :: cs) := by
  simp only [relF]
  exact ⟨f, fs, [c], cs, rfl, h1, rfl, by simp [h2], h3, by rw [h2]; exact h4⟩
end

noncomputable def actFields : List Field := match Tryz.prog.underlying 29 with | some (.struct fs) => fs.toList | _ => []

theorem cells3 : Tryz.prog.cellsOf 3 = 1 := by kernel_rfl
theorem cells27 : Tryz.prog.cellsOf 27 = 1 := by kernel_rfl
theorem cells28 : Tryz.prog.cellsOf 28 = 5 := by kernel_rfl
theorem cells29 : Tryz.prog.cellsOf 29 = 5 := by kernel_rfl
theorem types29 : Tryz.prog.cellTypes Tryz.prog.depth 29 = some [3, 3, 3, 3, 27] := by kernel_rfl
theorem fields28 : fieldsOf Tryz.prog 28 = some actFields := by kernel_rfl

theorem rel_int {φ : Phi} {W : World} {H : Type} {enc : TypeId × Value → H} {n t : Nat} {k : IntKind} {cs : List Value} {x : DataW H × List MemPlace} (ht : Tryz.prog.underlying t = some (.int k)) (h : DataW.trod enc Tryz.prog W 0 (fun _ => true) true n t cs = some x) :
    ∃ i, relC Tryz.prog φ (.I k i) cs := by
  obtain ⟨i, rfl, _⟩ := DataW.trod_int ht h
  exact ⟨i, by simp [relC]⟩

theorem trod_field {H : Type} {enc : TypeId × Value → H} {W : World} {fs : Array Field} {cs : List Value} {n : Nat} {xs : List (DataW H × List MemPlace)}
    (hf : ∀ (i : Nat) (f : Field), fs[i]? = some f → DataW.trod enc Tryz.prog W 0 (fun _ => true) true n f.type ((cs.drop f.offset).take (Tryz.prog.cellsOf f.type)) = xs[i]?) (hxs : xs.length = fs.size) {i : Nat} {f : Field} {c : Value}
    (h1 : fs[i]? = some f) (h2 : Tryz.prog.cellsOf f.type = 1) (h3 : cs[f.offset]? = some c) : ∃ y, DataW.trod enc Tryz.prog W 0 (fun _ => true) true n f.type [c] = some y := by
  have h := hf i f h1
  rw [h2] at h
  obtain ⟨hlt, h3⟩ := List.getElem?_eq_some_iff.1 h3
  rw [List.drop_eq_getElem_cons hlt, List.take_succ_cons, List.take_zero, h3] at h
  have hx : i < xs.length := by rw [hxs]; exact (Array.getElem?_eq_some_iff.1 h1).1
  exact ⟨xs[i], h.trans (List.getElem?_eq_getElem hx)⟩

theorem open_act {W : World} {base : Nat} {H : Type} {enc : TypeId × Value → H} {v : Value} {d : DataW H} {p : List MemPlace} (hval : Value.okWide Tryz.prog W .any base 29 v) (hd : DataW.Trod enc Tryz.prog W 0 (fun _ => true) true 29 v d p) :
    ∃ x0 x1 x2 x3 dv φ, relV Tryz.prog φ (.St 28 [.I .i64 x0, .I .i64 x1, .I .i64 x2, .I .i64 x3, dv]) v ∧ ∀ b, 1 ≤ b → φ b = none := by
  simp only [Value.okWide, Tryz.underlying29] at hval
  obtain ⟨cs, rfl, hsz, ts, hts, _, hrow⟩ := hval
  rw [types29] at hts
  cases hts
  obtain ⟨fuel, hd⟩ := hd
  obtain ⟨xs, n, rfl, _, hlen, hxs, hf⟩ := DataW.trod_struct Tryz.underlying29 hd
  rw [cells29] at hsz
  obtain ⟨l⟩ := cs
  match l, hsz with
  | [c0, c1, c2, c3, c4], _ =>
    obtain ⟨y0, f0⟩ := trod_field hf hxs (i := 0) (c := c0) rfl cells3 rfl
    obtain ⟨y1, f1⟩ := trod_field hf hxs (i := 1) (c := c1) rfl cells3 rfl
    obtain ⟨y2, f2⟩ := trod_field hf hxs (i := 2) (c := c2) rfl cells3 rfl
    obtain ⟨y3, f3⟩ := trod_field hf hxs (i := 3) (c := c3) rfl cells3 rfl
    obtain ⟨y4, f4⟩ := trod_field hf hxs (i := 4) (c := c4) rfl cells27 rfl
    have hdv : ∃ dv, ∃ φ : Phi, relC Tryz.prog φ dv [c4] ∧ ∀ b, 1 ≤ b → φ b = none := by
      rcases DataW.trod_slice Tryz.underlying27 f4 with ⟨h, _⟩ | ⟨a, len, cap, elems, rest, n', _, h, _, _, hle, _⟩
      · exact ⟨.L0, fun _ => none, by simp only [relC]; exact h, fun _ _ => rfl⟩
      · obtain ⟨u, hu, hok⟩ := hrow 4 c4 rfl
        cases hu
        simp only [List.cons.injEq, and_true] at h
        subst h
        have hok' : Cell.ok Tryz.prog W .any base 27 (.slice (some a) len cap) := by
          simp only [Cell.okWide, Tryz.underlying27] at hok
          exact hok
        simp only [Cell.ok, Tryz.underlying27] at hok'
        obtain ⟨_, _, _, hsp, _⟩ := hok'
        refine ⟨.L 0 [] 5 0 len cap false, fun b => if b = 0 then some ⟨a.block, a.off, 0⟩ else none, ?_, fun b hb => if_neg (by omega)⟩
        simp only [relC]
        refine .inl ⟨⟨a.block, a.off, 0⟩, a.off, cap, rfl, ?_, hle, .inl (by simp [offs]), rfl⟩
        obtain ⟨ab, ao, asp⟩ := a
        simp at hsp
        subst hsp
        rfl
    obtain ⟨dv, φ, hdv, hφ⟩ := hdv
    obtain ⟨x0, r0⟩ := rel_int (φ := φ) Tryz.underlying3 f0
    obtain ⟨x1, r1⟩ := rel_int (φ := φ) Tryz.underlying3 f1
    obtain ⟨x2, r2⟩ := rel_int (φ := φ) Tryz.underlying3 f2
    obtain ⟨x3, r3⟩ := rel_int (φ := φ) Tryz.underlying3 f3
    refine ⟨x0, x1, x2, x3, dv, φ, .inl ⟨[c0, c1, c2, c3, c4], ?_, rfl⟩, hφ⟩
    simp only [relC]
    refine ⟨actFields, fields28, ?_, by rw [cells28]; rfl, ?_⟩
    · simp only [actFields, Tryz.underlying29]; rfl
    · simp only [actFields, Tryz.underlying29]
      refine relF_leaf rfl cells3 r0 <| relF_leaf rfl cells3 r1 <| relF_leaf rfl cells3 r2 <| relF_leaf rfl cells3 r3 <| relF_leaf rfl cells27 hdv ?_
      simp only [relF]

/-- As the machine, but the example is not run. -/
noncomputable def callX : CallT := fun f args h =>
  bi (Nat.beq f 14) (bi (Nat.beq h.next 2) (bi (Nat.beq args.length 0) (some (.B true, ⟨h.tr, 1565⟩)) none) none) (tF Tryz.prog 1000 htab 59 f args h)

set_option maxRecDepth 1000000 in
theorem ev13 (x0 x1 x2 x3 : Int) (d : V) :
    (match (funT Tryz.prog 1000 htab 13).out callX [.St 28 [.I .i64 x0, .I .i64 x1, .I .i64 x2, .I .i64 x3, d]] ⟨.nil, 1⟩ with | some (.B true, _) => true | _ => false) = true := by kernel_rfl

theorem callX_fr : CallFr (fun _ => False) ⟨.nil, 0⟩ callX (evF Tryz.prog 1000 59) := by
  intro f args s b v s' F e
  unfold callX at e
  rw [bi_eq] at e
  split at e
  · rename_i hf
    rw [bi_eq] at e
    split at e
    · rename_i hn
      rw [bi_eq] at e
      split at e
      · rename_i ha
        simp only [Option.some.injEq, Prod.mk.injEq] at e
        obtain ⟨rfl, rfl⟩ := e
        have hf := nbeq_t hf
        have hn := nbeq_t hn
        have ha := List.eq_nil_of_length_eq_zero (nbeq_t ha)
        subst hf
        subst ha
        have h14 := ev14
        rw [← tF_eq htab_ok] at h14
        cases hw : evF Tryz.prog 1000 59 14 [] ⟨.nil, 2⟩ with
        | none => rw [hw] at h14; cases h14
        | some r =>
          obtain ⟨v, w⟩ := r
          rw [hw] at h14
          cases v <;> try (cases h14; done)
          rename_i t
          cases t <;> try (cases h14; done)
          have hwn : w.next = 1565 := nbeq_t h14
          have F0 : Fr (fun i => i < 2) b ⟨.nil, 2⟩ b := by
            have hg : ∀ i, (⟨.nil, 2⟩ : H).get i = none := fun i => by simp [H.get, Tr.get]
            exact ⟨by rw [← F.next, hn], fun i x hx => (by rw [hg] at hx; cases hx), fun i hi => ⟨hi, hg i, rfl⟩, fun i x hx => (by rw [hg] at hx; cases hx)⟩
          obtain ⟨b', hb', F'⟩ := evF_fr 59 14 [] _ _ _ _ F0 hw
          refine ⟨b', hb', ?_, fun i x hx => ?_, fun i hi => hi.elim, fun i x hx => ?_⟩
          · rw [← F'.next, hwn]
          · have hlt := F.lt i x hx
            rw [(F'.un i (by omega)).2.2]
            exact F.sub i x hx
          · have hlt := F.lt i x hx
            show i < 1565
            omega
      · cases e
    · cases e
  · rw [← tF_eq htab_ok] at e
    exact evF_fr 59 f args s b v s' F e

theorem run13 (x0 x1 x2 x3 : Int) (d : V) : ∃ h', evF Tryz.prog 1000 60 13 [.St 28 [.I .i64 x0, .I .i64 x1, .I .i64 x2, .I .i64 x3, d]] ⟨.nil, 1⟩ = some (.B true, h') := by
  obtain ⟨h', he⟩ := isTrue (ev13 x0 x1 x2 x3 d)
  rw [funT_out htab_ok Tryz.func13] at he
  have hg : ∀ i, (⟨.nil, 1⟩ : H).get i = none := fun i => by simp [H.get, Tr.get]
  obtain ⟨b', hb', _⟩ := evB_fr callX_fr (s := ⟨.nil, 1⟩) (b := ⟨.nil, 1⟩) ⟨rfl, fun i x hx => hx, fun i hi => hi.elim, fun i x hx => (by rw [hg] at hx; cases hx)⟩ he
  refine ⟨b', ?_⟩
  have h60 : ∀ args h, evF Tryz.prog 1000 60 13 args h = (match Tryz.prog.funcs[13]? with | some fn => evB Tryz.prog (evF Tryz.prog 1000 59) 1000 fn args h | none => none) := fun args h => by rw [evF]; rfl
  rw [h60, Tryz.func13]
  exact hb'

theorem hn_own : ownKnob Tryz.prog.godebug = none := by kernel_rfl
theorem hn_laid : laidOutB Tryz.prog = true := by kernel_rfl

theorem hn_contract (K : Type) (enc : TypeId × Value → K) (W : World) (base : Nat) (args : Array Value) (ds gs : List (DataW K)) (before : List MemPlace)
    (hval : ∀ (j : Nat) t v, Tryz.f13.params[j]? = some t → args[j]? = some v → Value.okWide Tryz.prog W .any base t v)
    (hW : DataW.Whole enc Tryz.prog Tryz.f13.params.toList Rows.hierNilSpec.vars false W args.toList ds gs before) :
    Calls Tryz.prog 13 args W fun e W' => ∃ v, e = .returned v ∧ Rows.hierNilSpec.post enc Tryz.prog Tryz.f13 false true false false W args v W' := by
  have hW' := hW
  obtain ⟨p, q, hA0, hV, rfl, hfz, hnd⟩ := hW
  have hA : DataW.TrodAll enc Tryz.prog W 0 (fun _ => true) true Tryz.f13.params.toList args.toList ds p := hA0
  rw [Tryz.params13] at hA hval
  obtain ⟨v0, d0, rfl, rfl, h0⟩ := trodAll_one hA
  obtain ⟨rfl, rfl⟩ := trodVars_none hV
  obtain ⟨x0, x1, x2, x3, dv, φ, rv, hφ⟩ := open_act (hval 0 29 v0 rfl rfl) h0
  obtain ⟨h', he⟩ := run13 x0 x1 x2 x3 dv
  have hR : Rel Tryz.prog φ ⟨.nil, 1⟩ W := by
    have hn : ∀ b, (⟨.nil, 1⟩ : H).get b = none := fun b => by simp [H.get, Tr.get]
    exact ⟨fun b x hx => (by rw [hn] at hx; cases hx), fun b x hx => (by rw [hn] at hx; cases hx), fun b c x y l m hx => (by rw [hn] at hx; cases hx)⟩
  have := evF_sound Tryz.checked.mixed 60 13 _ _ _ _ he φ W [v0] hR (fun b hb _ => hφ b hb) (relVs_cons.2 ⟨_, _, rfl, rv, relVs_nil.2 rfl⟩)
  refine this.mono ?_
  rintro e W' ⟨φ', x, rfl, R', K', rx⟩
  rw [relV_B.1 rx]
  refine ⟨_, rfl, post_true (tb := 4) hn_laid hW' rfl rfl rfl rfl (by kernel_rfl) Tryz.underlying4 (by kernel_rfl) (K'.stays ?_)⟩
  intro b x hx
  simp [H.get, Tr.get] at hx

theorem hn_lifted (os : Os) (started : os.Started) (K : Type) (enc : TypeId × Value → K) :
    ReturnsInHanded {} Tryz.checked os 13 .any (Rows.hierNilSpec.pre6 enc Tryz.prog Tryz.f13 Rows.hierNilRow.domain false) (Rows.hierNilSpec.post enc Tryz.prog Tryz.f13 false true false false) := by
  refine returnsInHanded_of_change (C := Tryz.checked) hn_own started (by kernel_rfl) Tryz.func13
    (ChangeSpec.witness6 (enc := enc) (C := Tryz.checked) false ⟨#[], #[.agg #[.int .i64 0, .int .i64 0, .int .i64 0, .int .i64 0, .slice none 0 0]], []⟩ 8 (by kernel_rfl) (by kernel_rfl) (by kernel_rfl) (by kernel_rfl)) ?_
  intro W base args ds gs before hval hW _ _
  exact hn_contract K enc W base args ds gs before hval hW

/-- The row: whatever the act: true. -/
theorem hn_holds : Rows.HierNilSaid :=
  OpenClaim.holds_of_wide 13 Tryz.f13 rfl rfl rfl rfl rfl rfl rfl ⟨rfl, rfl, rfl, rfl, rfl⟩ rfl rfl rfl rfl rfl named13 Tryz.func13 closed13
    (of_decide_eq_true (by kernel_rfl)) (by unfold Func.isWrapper; first | (rw [if_pos (by decide +kernel)]; kernel_rfl) | (rw [if_neg (by decide +kernel)]; exact ⟨rfl, rfl⟩))
    (fun os started K enc _ => hn_lifted os started K enc)
#print axioms hn_holds

end Go.Proofs.YtnnebakkcdclmaaGreat.AM
