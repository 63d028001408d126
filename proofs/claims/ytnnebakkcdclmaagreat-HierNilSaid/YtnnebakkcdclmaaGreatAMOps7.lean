/-
  Proved here, for every program: a part of the soundness of an abstract machine against the model: lemmas. Conditions: none.
-/
import Derived.Test.YtnnebakkcdclmaaGreatAMOps6
namespace Go.Proofs.YtnnebakkcdclmaaGreat.AM
section
variable {P : Program} {φ : Phi} {w : World}

theorem wrap64 {n : Int} (h0 : -9223372036854775808 ≤ n) (h1 : n < 9223372036854775808) : IntKind.i64.wrap n = n := by
  show (if (true && decide (n % (2 ^ 64 : Int) ≥ (2 ^ 63 : Int))) = true then n % (2 ^ 64 : Int) - (2 ^ 64 : Int) else n % (2 ^ 64 : Int)) = n
  simp only [Bool.true_and, decide_eq_true_eq]
  split <;> omega

/-! New blocks. -/
def ObjOk (P : Program) (φ : Phi) (blk : Blk) (o : Obj) (top : Nat) : Prop :=
  match blk with
  | .c k v => k = .rw ∧ ∃ c e cs, o = .cells c e ∧ c.size = top ∧ relC P φ v cs ∧ ∀ (i : Nat) x, cs[i]? = some x → c[i]? = some x
  | .m es => es = [] ∧ o = .map #[] 0 ∧ top = 0

def Mk.valC (cb : Nat) : Mk → Value
  | .ptr => .pointer (some ⟨cb, 0, none⟩)
  | .map => .map (some cb)
  | .sl _ len cap => .slice (some ⟨cb, 0, none⟩) len cap

def Mk.fine : Mk → Prop
  | .sl _ len cap => len ≤ cap
  | _ => True

theorem Mk.rel {m : Mk} (hm : m.fine) {b : Nat} {l : Loc} (hl : φ b = some l) (h0 : l.base = 0) : relV P φ (m.val b) (m.valC l.cb) := by
  cases m with
  | ptr => exact relV_P.2 ⟨l, hl, by simp [Mk.valC, h0, offs]⟩
  | map => exact relV_M.2 ⟨l, hl, rfl⟩
  | sl e len cap => exact relV_Lmk ⟨l, 0, cap, hl, rfl, hm, .inl (by simp [h0, offs]), by simp⟩

theorem ObjOk.mono {φ ψ : Phi} (hle : φ.le ψ) {blk : Blk} {o : Obj} {top : Nat} (h : ObjOk P φ blk o top) : ObjOk P ψ blk o top := by
  cases blk with
  | c k v => obtain ⟨h0, c, e, cs, h1, h2, h3, h4⟩ := h; exact ⟨h0, c, e, cs, h1, h2, relC_mono hle h3, h4⟩
  | m es => exact h

/-- A new block is laid. -/
theorem Rel.lay {h : H} (R : Rel P φ h w) (hf : φ h.next = none) {blk : Blk} {o : Obj} {top : Nat} (ho : ObjOk P φ blk o top) :
    Rel P (φ.add h.next ⟨w.heap.size, 0, top⟩) (h.new blk) (w.alloc o) ∧ Keep φ h w (φ.add h.next ⟨w.heap.size, 0, top⟩) (h.new blk) (w.alloc o) := by
  cases blk with
  | c k v =>
    obtain ⟨rfl, c, e, cs, rfl, rfl, r, hc⟩ := ho
    exact R.new_c hf (by simp) r e hc
  | m es =>
    obtain ⟨rfl, rfl, rfl⟩ := ho
    exact R.new_m hf

theorem run_newRow (e : TypeId) (c : Array Value) : (newRow e c).run P w = .ok ⟨w.heap.size, 0, none⟩ (w.alloc (.cells c e)) := rfl

/-- A row of zeros. -/
theorem zeros_rel {z : V} {zs : Array Value} {s : Nat} (r : relC P φ z zs.toList) (hs : zs.size = s) (h0 : 0 < s) : ∀ n, relA P φ s (List.replicate n z) ((List.range (n * s)).map fun i => zs[i % zs.size]!)
  | 0 => by simp [relA]
  | n + 1 => by
    rw [List.replicate_succ', Nat.succ_mul, List.range_add, List.map_append]
    refine relA_append (zeros_rel r hs h0 n) ?_
    simp only [relA]
    refine ⟨zs.toList, [], ?_, by simpa using hs, r, rfl⟩
    rw [List.append_nil, List.map_map]
    apply List.ext_getElem?
    intro i
    by_cases hi : i < s
    · have : (n * s + i) % zs.size = i := by rw [hs, Nat.add_comm, Nat.add_mul_mod_self_right, Nat.mod_eq_of_lt hi]
      have hi' : i < zs.size := by omega
      simp [hi, this, hi']
    · have h1 : zs.size ≤ i := by omega
      simp [hi, h1]

theorem zeros_rel' {z : V} {zs : Array Value} {s : Nat} (r : relC P φ z zs.toList) (hs : zs.size = s) (h0 : 0 < s) (n : Nat) : relA P φ s (List.replicate n z) (((Array.range (n * s)).map (zs[· % zs.size]!)).toList) := by
  have := zeros_rel r hs h0 n
  simpa using this

theorem run_evA {E : Env} {a : Act} {nt : Nat} {o : Oper} {blk : Blk} {m : Mk} (r : ERel P φ E a nt) (ho : o.op.operands.all (okOp nt) = true) (h : evA P E o = some (blk, m)) :
    ∃ ob top, ObjOk P φ blk ob top ∧ m.fine ∧ ∀ w, (execOp a.eval o).run P w = .ok (.value (m.valC w.heap.size)) (w.alloc ob) := by
  unfold evA at h
  split at h
  · rename_i t hop
    simp only [Option.map_eq_some_iff, Prod.mk.injEq] at h
    obtain ⟨v, hz, rfl, rfl⟩ := h
    obtain ⟨k, i, z, hk, hi, hzz, hok, rz, _⟩ := zeroOf_rel (φ := φ) hz
    refine ⟨.cells z.cells t, z.cells.size, ⟨rfl, z.cells, t, z.cells.toList, rfl, rfl, rz, fun i x hx => by simpa using hx⟩, trivial, fun w => ?_⟩
    simp only [execOp, hop, Sem.run_bind, Instr.alloc, run_zeroValue hi hzz, Result.andThen_ok, newVar, run_newRow, Sem.run_pure]
    rfl
  · rename_i t x hop
    split at h
    · rename_i k hk
      split at h
      · rename_i hok
        cases h
        rw [hop] at ho
        have rx := opv_rel r (x := x) (by simpa [Op.operands] using ho)
        obtain ⟨cs, rc, hp, hcs⟩ := relV_cells hok rx
        refine ⟨.cells (a.eval x).cells t, (a.eval x).cells.size, ⟨rfl, _, t, cs, rfl, rfl, rc, fun i y hy => by rw [← hcs] at hy; simpa using hy⟩, trivial, fun w => ?_⟩
        simp only [execOp, hop, Sem.run_bind, Instr.box, newVar, run_newRow, Result.andThen_ok, Sem.run_pure]
        rfl
      · cases h
    · cases h
  · rename_i t len ps hop
    split at h
    · rename_i e hu
      split at h
      · rename_i k z hk hz
        split at h
        · rename_i hlim
          simp only [bls, Option.map_eq_some_iff, Prod.mk.injEq] at h
          obtain ⟨us, hfill, rfl, rfl⟩ := h
          obtain ⟨k', i, zz, hk', hi, hzz, hok, rz, _⟩ := zeroOf_rel (φ := φ) hz
          rw [hk] at hk'; cases hk'
          rw [hop] at ho
          obtain ⟨hp1, hp2⟩ := parts_elem r k (ps := ps.toList) (by simpa [Op.operands, List.all_map, Function.comp_def] using ho)
          have hsz : zz.cells.size = P.cellsOf e := by have := kind_size hk hok rz; simpa using this
          have hpos := kind_pos hk
          obtain ⟨cells', f1, f2, f3⟩ := fill_rel (P := P) (φ := φ) (n := len) (slots_array (place := fun i => some (i * P.cellsOf e, P.cellsOf e)) fun i => rfl) hp1 (by
            intro i k'' v hm off size hpp cs hokv rc
            obtain rfl := hp2 i k'' v hm
            simp at hpp
            rw [kind_size hk hokv rc]; exact hpp.2) (by simp) (zeros_rel' rz hsz hpos len) hfill
          refine ⟨.cells cells' e, cells'.size, ⟨rfl, cells', e, cells'.toList, rfl, rfl, by simpa only [relC] using f2, fun i x hx => by simpa using hx⟩, Nat.le_refl _, fun w => ?_⟩
          have hq : (ps.map fun (x : Nat × Operand) => (x.1, a.eval x.2)).toList = List.map (fun (x : Nat × Operand) => (x.1, a.eval x.2)) ps.toList := by simp
          have f1' : Instr.fill (fun i => some (i * P.cellsOf e, P.cellsOf e)) (Array.map (fun x => zz.cells[x % zz.cells.size]!) (Array.range (len * P.cellsOf e))) (List.map (fun (x : Nat × Operand) => (x.1, a.eval x.2)) ps.toList) = some cells' := f1
          simp only [execOp, hop, Sem.run_bind, Instr.buildSlice, run_underlying hu, Result.andThen_ok, run_sizeOf' (kind_info hk)]
          rw [if_neg (by omega)]
          by_cases h0 : len * P.cellsOf e = 0
          · rw [h0] at f1'
            simp only [h0, if_true, Sem.run_bind, Sem.run_pure, Result.andThen_ok, hq]
            have e1 : Array.map (fun x => (#[] : Array Value)[x % (#[] : Array Value).size]!) (Array.range 0) = Array.map (fun x => zz.cells[x % zz.cells.size]!) (Array.range 0) := by simp
            rw [e1, f1']
            simp only [Sem.run_bind, run_newRow, Sem.run_pure, Result.andThen_ok]
            rfl
          · simp only [h0, if_false, Sem.run_bind, Sem.run_pure, Result.andThen_ok, run_zeroValue hi hzz, hq]
            rw [f1']
            simp only [Sem.run_bind, run_newRow, Sem.run_pure, Result.andThen_ok]
            rfl
        · cases h
      · cases h
    · cases h
  · rename_i t l c hop
    split at h
    · rename_i e hu
      split at h
      · rename_i z hz
        rw [hop] at ho
        simp only [Op.operands] at ho
        have hl := opv_rel r (x := l) (by simp at ho; exact ho.1)
        have hc := opv_rel r (x := c) (by simp at ho; exact ho.2)
        unfold mks at h
        split at h
        · rename_i n k el ec
          split at h
          · rename_i hcond
            obtain ⟨h0, h1, h2, h3⟩ := hcond
            cases h
            rw [el] at hl; rw [ec] at hc
            have hl' := relV_I.1 hl
            have hc' := relV_I.1 hc
            obtain ⟨k', i, zz, hk', hi, hzz, hok, rz, _⟩ := zeroOf_rel (φ := φ) hz
            have hsz : zz.cells.size = P.cellsOf e := by have := kind_size hk' hok rz; simpa using this
            have hpos := kind_pos hk'
            have hbytes : P.bytesOf e = i.bytes := by simp [Program.bytesOf, hi]
            refine ⟨.cells ((Array.range (k.toNat * P.cellsOf e)).map (zz.cells[· % zz.cells.size]!)) e, _, ⟨rfl, _, e, _, rfl, rfl, by simpa only [relC] using zeros_rel' rz hsz hpos k.toNat, fun i x hx => by rw [← Array.getElem?_toList]; exact hx⟩, by simp only [Mk.fine]; omega, fun w => ?_⟩
            have hw1 : IntKind.i64.wrap n = n := wrap64 (by omega) (by omega)
            have hw2 : IntKind.i64.wrap k = k := wrap64 (by omega) (by omega)
            have hprod : (i.bytes : Int) * k ≤ 2 ^ 48 := by
              have : (i.bytes : Int) ≤ 1048576 := by omega
              calc (i.bytes : Int) * k ≤ 1048576 * 16777216 := Int.mul_le_mul this h2 (by omega) (by omega)
                _ ≤ 2 ^ 48 := by omega
            have hc1 : ¬ (k < 0) := by omega
            have hc2 : ¬ ((i.bytes : Int) * k > 2 ^ 48) := by omega
            have hcond : ((decide (k < 0) || decide ((i.bytes : Int) * k > 2 ^ 48) || decide (n < 0) || decide (n > k)) = true) = False := by
              clear hw1 hw2
              simp only [Bool.or_eq_true, decide_eq_true_eq, hc1, hc2, eq_iff_iff, iff_false, false_or, gt_iff_lt]
              omega
            have hroom : (askRoom (k.toNat * i.bytes)).run P w = .ok () w := by
              unfold askRoom; split <;> rfl
            simp only [execOp, hop, hl', hc', Sem.run_bind, Instr.makeSlice, run_underlying hu, Result.andThen_ok, asInt, asIntOf, Sem.run_pure, run_typeInfo w hi, hw1, hw2, hcond, if_false]
            simp only [hroom, Result.andThen_ok, run_sizeOf' (kind_info hk')]
            by_cases h00 : k.toNat * P.cellsOf e = 0
            · have e1 : Array.map (fun x => (#[] : Array Value)[x % (#[] : Array Value).size]!) (Array.range 0) = Array.map (fun x => zz.cells[x % zz.cells.size]!) (Array.range 0) := by simp
              simp only [h00, if_true, Sem.run_bind, Sem.run_pure, Result.andThen_ok]
              rw [e1]
              simp only [run_newRow, Result.andThen_ok]
              rfl
            · simp only [h00, if_false, Sem.run_bind, Sem.run_pure, Result.andThen_ok, run_zeroValue hi hzz, run_newRow]
              rfl
          · cases h
        · cases h
      · cases h
    · cases h
  · rename_i t hop
    split at h
    · cases h
      refine ⟨.map #[] 0, 0, ⟨rfl, rfl, rfl⟩, trivial, fun w => ?_⟩
      simp only [execOp, hop, Sem.run_bind, Instr.makeMap]
      rfl
    · cases h
  · cases h

end
end Go.Proofs.YtnnebakkcdclmaaGreat.AM
