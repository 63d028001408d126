/-
  ServerNil: whatever the message and the number, the law returns true; what came in reads as it did. Conditions: none.
-/
import Derived.Test.YtdnomnhelhbniaaGreatRows
import Derived.ProofKit
import Derived.Test.YtdnomnhelhbniaaGreatAMGlue
namespace Go.Proofs.YtdnomnhelhbniaaGreat.AM
open Go.Proofs Go.Proofs.YtdnomnhelhbniaaGreat Go.ChangeShapes Go.RowKit
set_option maxRecDepth 100000
section
variable {P : Program} {φ : Phi}
theorem relF_leaf {v : V} {vs : List V} {f : Field} {fs : List Field} {off : Nat} {c : Value} {cs : List Value} (h1 : f.offset = off) (h2 : P.cellsOf f.type = 1) (h3 : relC P φ v [c]) (h4 : relF P φ vs fs (off + 1) cs) : relF P φ (v :: vs) (f :: fs) off (c :: cs) := by
  simp only [relF]
  exact ⟨f, fs, [c], cs, rfl, h1, rfl, by simp [h2], h3, by rw [h2]; exact h4⟩
end

noncomputable def msgFields : List Field := match Tryz.prog.underlying 38 with | some (.struct fs) => fs.toList | _ => []

theorem cells3 : Tryz.prog.cellsOf 3 = 1 := by kernel_rfl
theorem cells4 : Tryz.prog.cellsOf 4 = 1 := by kernel_rfl
theorem cells30 : Tryz.prog.cellsOf 30 = 1 := by kernel_rfl
theorem cells36 : Tryz.prog.cellsOf 36 = 1 := by kernel_rfl
theorem cells37 : Tryz.prog.cellsOf 37 = 11 := by kernel_rfl
theorem cells38 : Tryz.prog.cellsOf 38 = 11 := by kernel_rfl
theorem types38 : Tryz.prog.cellTypes Tryz.prog.depth 38 = some [3, 3, 3, 3, 3, 3, 3, 3, 30, 4, 36] := by kernel_rfl
theorem fields37 : fieldsOf Tryz.prog 37 = some msgFields := by kernel_rfl

theorem rel_int {φ : Phi} {W : World} {H : Type} {enc : TypeId × Value → H} {n t : Nat} {k : IntKind} {cs : List Value} {x : DataW H × List MemPlace} (ht : Tryz.prog.underlying t = some (.int k)) (h : DataW.trod enc Tryz.prog W 0 (fun _ => true) true n t cs = some x) :
    ∃ i, relC Tryz.prog φ (.I k i) cs := by
  obtain ⟨i, rfl, _⟩ := DataW.trod_int ht h
  exact ⟨i, by simp [relC]⟩

theorem rel_bool {φ : Phi} {W : World} {H : Type} {enc : TypeId × Value → H} {n t : Nat} {cs : List Value} {x : DataW H × List MemPlace} (ht : Tryz.prog.underlying t = some .bool) (h : DataW.trod enc Tryz.prog W 0 (fun _ => true) true n t cs = some x) :
    ∃ b, relC Tryz.prog φ (.B b) cs := by
  obtain ⟨b, rfl, _⟩ := DataW.trod_bool ht h
  exact ⟨b, by simp [relC]⟩

theorem trod_field {H : Type} {enc : TypeId × Value → H} {W : World} {fs : Array Field} {cs : List Value} {n : Nat} {xs : List (DataW H × List MemPlace)}
    (hf : ∀ (i : Nat) (f : Field), fs[i]? = some f → DataW.trod enc Tryz.prog W 0 (fun _ => true) true n f.type ((cs.drop f.offset).take (Tryz.prog.cellsOf f.type)) = xs[i]?) (hxs : xs.length = fs.size) {i : Nat} {f : Field} {c : Value}
    (h1 : fs[i]? = some f) (h2 : Tryz.prog.cellsOf f.type = 1) (h3 : cs[f.offset]? = some c) : ∃ y, DataW.trod enc Tryz.prog W 0 (fun _ => true) true n f.type [c] = some y := by
  have h := hf i f h1
  rw [h2] at h
  obtain ⟨hlt, h3⟩ := List.getElem?_eq_some_iff.1 h3
  rw [List.drop_eq_getElem_cons hlt, List.take_succ_cons, List.take_zero, h3] at h
  have hx : i < xs.length := by rw [hxs]; exact (Array.getElem?_eq_some_iff.1 h1).1
  exact ⟨xs[i], h.trans (List.getElem?_eq_getElem hx)⟩

theorem open_msg {W : World} {base : Nat} {H : Type} {enc : TypeId × Value → H} {v : Value} {d : DataW H} {p : List MemPlace} (hval : Value.okWide Tryz.prog W .any base 38 v) (hd : DataW.Trod enc Tryz.prog W 0 (fun _ => true) true 38 v d p) :
    ∃ x0 x1 x2 x3 x4 x5 x6 x7 x8 b dv φ, relV Tryz.prog φ (.St 37 [.I .i64 x0, .I .i64 x1, .I .i64 x2, .I .i64 x3, .I .i64 x4, .I .i64 x5, .I .i64 x6, .I .i64 x7, .I .i64 x8, .B b, dv]) v ∧ ∀ b, 1 ≤ b → φ b = none := by
  simp only [Value.okWide, Tryz.underlying38] at hval
  obtain ⟨cs, rfl, hsz, ts, hts, _, hrow⟩ := hval
  rw [types38] at hts
  cases hts
  obtain ⟨fuel, hd⟩ := hd
  obtain ⟨xs, n, rfl, _, hlen, hxs, hf⟩ := DataW.trod_struct Tryz.underlying38 hd
  rw [cells38] at hsz
  obtain ⟨l⟩ := cs
  match l, hsz with
  | [c0, c1, c2, c3, c4, c5, c6, c7, c8, c9, c10], _ =>
    obtain ⟨y0, f0⟩ := trod_field hf hxs (i := 0) (c := c0) rfl cells3 rfl
    obtain ⟨y1, f1⟩ := trod_field hf hxs (i := 1) (c := c1) rfl cells3 rfl
    obtain ⟨y2, f2⟩ := trod_field hf hxs (i := 2) (c := c2) rfl cells3 rfl
    obtain ⟨y3, f3⟩ := trod_field hf hxs (i := 3) (c := c3) rfl cells3 rfl
    obtain ⟨y4, f4⟩ := trod_field hf hxs (i := 4) (c := c4) rfl cells3 rfl
    obtain ⟨y5, f5⟩ := trod_field hf hxs (i := 5) (c := c5) rfl cells3 rfl
    obtain ⟨y6, f6⟩ := trod_field hf hxs (i := 6) (c := c6) rfl cells3 rfl
    obtain ⟨y7, f7⟩ := trod_field hf hxs (i := 7) (c := c7) rfl cells3 rfl
    obtain ⟨y8, f8⟩ := trod_field hf hxs (i := 8) (c := c8) rfl cells30 rfl
    obtain ⟨y9, f9⟩ := trod_field hf hxs (i := 9) (c := c9) rfl cells4 rfl
    obtain ⟨y10, f10⟩ := trod_field hf hxs (i := 10) (c := c10) rfl cells36 rfl
    have hdv : ∃ dv, ∃ φ : Phi, relC Tryz.prog φ dv [c10] ∧ ∀ b, 1 ≤ b → φ b = none := by
      rcases DataW.trod_slice Tryz.underlying36 f10 with ⟨h, _⟩ | ⟨a, len, cap, elems, rest, n', _, h, _, _, hle, _⟩
      · exact ⟨.L0, fun _ => none, by simp only [relC]; exact h, fun _ _ => rfl⟩
      · obtain ⟨u, hu, hok⟩ := hrow 10 c10 rfl
        cases hu
        simp only [List.cons.injEq, and_true] at h
        subst h
        have hok' : Cell.ok Tryz.prog W .any base 36 (.slice (some a) len cap) := by
          simp only [Cell.okWide, Tryz.underlying36] at hok
          exact hok
        simp only [Cell.ok, Tryz.underlying36] at hok'
        obtain ⟨_, _, _, hsp, _⟩ := hok'
        refine ⟨.L 0 [] 5 0 len cap false, fun b => if b = 0 then some ⟨a.block, a.off, 0⟩ else none, ?_, fun b hb => if_neg (by omega)⟩
        simp only [relC]
        refine ⟨⟨a.block, a.off, 0⟩, a.off, cap, rfl, ?_, hle, .inl (by simp [offs]), rfl⟩
        obtain ⟨ab, ao, asp⟩ := a
        simp at hsp
        subst hsp
        rfl
    obtain ⟨dv, φ, hdv, hφ⟩ := hdv
    obtain ⟨x0, r0⟩ := rel_int (φ := φ) Tryz.underlying3 f0
    obtain ⟨x1, r1⟩ := rel_int (φ := φ) Tryz.underlying3 f1
    obtain ⟨x2, r2⟩ := rel_int (φ := φ) Tryz.underlying3 f2
    obtain ⟨x3, r3⟩ := rel_int (φ := φ) Tryz.underlying3 f3
    obtain ⟨x4, r4⟩ := rel_int (φ := φ) Tryz.underlying3 f4
    obtain ⟨x5, r5⟩ := rel_int (φ := φ) Tryz.underlying3 f5
    obtain ⟨x6, r6⟩ := rel_int (φ := φ) Tryz.underlying3 f6
    obtain ⟨x7, r7⟩ := rel_int (φ := φ) Tryz.underlying3 f7
    obtain ⟨x8, r8⟩ := rel_int (φ := φ) Tryz.underlying30 f8
    obtain ⟨b, r9⟩ := rel_bool (φ := φ) Tryz.underlying4 f9
    refine ⟨x0, x1, x2, x3, x4, x5, x6, x7, x8, b, dv, φ, .inl ⟨[c0, c1, c2, c3, c4, c5, c6, c7, c8, c9, c10], ?_, rfl⟩, hφ⟩
    simp only [relC]
    refine ⟨msgFields, fields37, ?_, by rw [cells37]; rfl, ?_⟩
    · simp only [msgFields, Tryz.underlying38]; rfl
    · simp only [msgFields, Tryz.underlying38]
      refine relF_leaf rfl cells3 r0 <| relF_leaf rfl cells3 r1 <| relF_leaf rfl cells3 r2 <| relF_leaf rfl cells3 r3 <| relF_leaf rfl cells3 r4 <| relF_leaf rfl cells3 r5 <| relF_leaf rfl cells3 r6 <| relF_leaf rfl cells3 r7 <| relF_leaf rfl cells30 r8 <| relF_leaf rfl cells4 r9 <| relF_leaf rfl cells36 hdv ?_
      simp only [relF]

set_option maxRecDepth 100000 in
theorem ev6 (x0 x1 x2 x3 x4 x5 x6 x7 x8 n : Int) (b : Bool) (d : V) :
    (match evF Tryz.prog 1000 40 6 [.St 37 [.I .i64 x0, .I .i64 x1, .I .i64 x2, .I .i64 x3, .I .i64 x4, .I .i64 x5, .I .i64 x6, .I .i64 x7, .I .i64 x8, .B b, d], .I .i64 n] ⟨.nil, 1⟩ with | some (.B true, _) => true | _ => false) = true := by kernel_rfl

theorem nil_own : ownKnob Tryz.prog.godebug = none := by kernel_rfl
theorem nil_laid : laidOutB Tryz.prog = true := by kernel_rfl

theorem nil_contract (K : Type) (enc : TypeId × Value → K) (W : World) (base : Nat) (args : Array Value) (ds gs : List (DataW K)) (before : List MemPlace)
    (hval : ∀ (j : Nat) t v, Tryz.f6.params[j]? = some t → args[j]? = some v → Value.okWide Tryz.prog W .any base t v)
    (hW : DataW.Whole enc Tryz.prog Tryz.f6.params.toList Rows.serverNilSpec.vars false W args.toList ds gs before) :
    Calls Tryz.prog 6 args W fun e W' => ∃ v, e = .returned v ∧ Rows.serverNilSpec.post enc Tryz.prog Tryz.f6 false true false false W args v W' := by
  have hW' := hW
  obtain ⟨p, q, hA0, hV, rfl, hfz, hnd⟩ := hW
  have hA : DataW.TrodAll enc Tryz.prog W 0 (fun _ => true) true Tryz.f6.params.toList args.toList ds p := hA0
  rw [Tryz.params6] at hA hval
  obtain ⟨v0, v1, d0, d1, p0, p1, rfl, rfl, rfl, h0, h1⟩ := trodAll_two hA
  obtain ⟨rfl, rfl⟩ := trodVars_none hV
  obtain ⟨n, rfl, rfl, rfl, wn⟩ := open_int Tryz.underlying3 (hval 1 3 v1 rfl rfl) h1
  obtain ⟨x0, x1, x2, x3, x4, x5, x6, x7, x8, b, dv, φ, rv, hφ⟩ := open_msg (hval 0 38 v0 rfl rfl) h0
  obtain ⟨h', he⟩ := isTrue (ev6 x0 x1 x2 x3 x4 x5 x6 x7 x8 n b dv)
  have hR : Rel Tryz.prog φ ⟨.nil, 1⟩ W := by
    have hn : ∀ b, (⟨.nil, 1⟩ : H).get b = none := fun b => by simp [H.get, Tr.get]
    exact ⟨fun b x hx => (by rw [hn] at hx; cases hx), fun b x hx => (by rw [hn] at hx; cases hx), fun b c x y l m hx => (by rw [hn] at hx; cases hx)⟩
  have := evF_sound Tryz.checked.mixed 40 6 _ _ _ _ he φ W [v0, .int .i64 n] hR (fun b hb _ => hφ b hb) (relVs_cons.2 ⟨_, _, rfl, rv, relVs_cons.2 ⟨_, _, rfl, relV_I.2 rfl, relVs_nil.2 rfl⟩⟩)
  refine this.mono ?_
  rintro e W' ⟨φ', x, rfl, R', K', rx⟩
  rw [relV_B.1 rx]
  refine ⟨_, rfl, post_true (tb := 4) nil_laid hW' rfl rfl rfl rfl (by kernel_rfl) Tryz.underlying4 (by kernel_rfl) (K'.stays ?_)⟩
  intro b x hx
  simp [H.get, Tr.get] at hx

theorem nil_lifted (os : Os) (started : os.Started) (K : Type) (enc : TypeId × Value → K) :
    ReturnsInHanded {} Tryz.checked os 6 .any (Rows.serverNilSpec.pre6 enc Tryz.prog Tryz.f6 Rows.serverNilRow.domain false) (Rows.serverNilSpec.post enc Tryz.prog Tryz.f6 false true false false) := by
  refine returnsInHanded_of_change (C := Tryz.checked) nil_own started (by kernel_rfl) Tryz.func6
    (ChangeSpec.witness6 (enc := enc) (C := Tryz.checked) false ⟨#[], #[.agg #[.int .i64 0, .int .i64 0, .int .i64 0, .int .i64 0, .int .i64 0, .int .i64 0, .int .i64 0, .int .i64 0, .int .i64 0, .bool false, .slice none 0 0], .int .i64 0], []⟩ 8 (by kernel_rfl) (by kernel_rfl) (by kernel_rfl) (by kernel_rfl)) ?_
  intro W base args ds gs before hval hW _ _
  exact nil_contract K enc W base args ds gs before hval hW

/-- The row: whatever the message and the number: true. -/
theorem nil_holds : Rows.ServerNilSaid :=
  OpenClaim.holds_of_wide 6 Tryz.f6 rfl rfl rfl rfl rfl rfl rfl ⟨rfl, rfl, rfl, rfl, rfl⟩ rfl rfl rfl rfl rfl (by kernel_rfl) Tryz.func6 (by kernel_rfl)
    (of_decide_eq_true (by kernel_rfl)) (by unfold Func.isWrapper; first | (rw [if_pos (by decide +kernel)]; kernel_rfl) | (rw [if_neg (by decide +kernel)]; exact ⟨rfl, rfl⟩))
    (fun os started K enc _ => nil_lifted os started K enc)
#print axioms nil_holds

end Go.Proofs.YtdnomnhelhbniaaGreat.AM
