/-
  Proved here, for every program: a part of the soundness of an abstract machine against the model: lemmas. Conditions: none.
-/
import Derived.Test.YtnnebakkcdclmaaGreatAMOps7
namespace Go.Proofs.YtnnebakkcdclmaaGreat.AM
section
variable {P : Program} {φ : Phi} {w : World} {h : H}

/-! Maps. -/
theorem findI_now {k : IntKind} {n : Int} {kk : IntKind} : ∀ {es : List (V × V)} {ents : List MapEntry} {i : Nat} {r : Option (Nat × V)}, relM P φ es ents → findI k n es i = some r →
    ∃ r', Instr.findNow (.int kk) (.int k n) ents i = some r' ∧ (match r, r' with
      | none, none => True
      | some (j, v), some (j', x) => j' = j ∧ relV P φ v x ∧ i ≤ j ∧ ∃ e, es[j - i]? = some (.I k n, v) ∧ ents[j - i]? = some e ∧ e.key = .int k n
      | _, _ => False)
  | [], ents, i, r, hr, hf => by
    simp only [relM] at hr; subst hr
    simp only [findI, Option.some.injEq] at hf; subst hf
    exact ⟨none, rfl, trivial⟩
  | (ky, v) :: es, ents, i, r, hr, hf => by
    simp only [relM] at hr
    obtain ⟨e, ents', rfl, hk, hv, hr⟩ := hr
    cases ky <;> first | (simp [findI] at hf; done) | skip
    rename_i k' n'
    have hke := relV_I.1 hk
    simp only [findI] at hf
    split at hf
    · rename_i hkk; subst hkk
      split at hf
      · rename_i hn
        have hn' : n = n' := by simpa using hn
        subst hn'
        cases hf
        refine ⟨some (i, e.val), by simp [Instr.findNow, Instr.sameNow, hke], rfl, hv, Nat.le_refl _, e, ?_⟩
        rw [Nat.sub_self]
        exact ⟨rfl, rfl, hke⟩
      · rename_i hn
        obtain ⟨r', h1, h2⟩ := findI_now (kk := kk) hr hf
        have hn' : (n == n') = false := by simpa using hn
        refine ⟨r', by simp only [Instr.findNow, Instr.sameNow, hke, if_true, hn']; exact h1, ?_⟩
        cases r with
        | none => cases r' with
          | none => trivial
          | some _ => exact h2
        | some jv => cases r' with
          | none => exact h2
          | some jx =>
            obtain ⟨j, v'⟩ := jv
            obtain ⟨j', x⟩ := jx
            obtain ⟨e1, e2, e3, e', e4, e5, e6⟩ := h2
            refine ⟨e1, e2, by omega, e', ?_⟩
            rw [show j - i = (j - (i + 1)) + 1 from by omega]
            exact ⟨by simpa using e4, by simpa using e5, e6⟩
    · cases hf

theorem run_checkKey_int {kt : TypeId} {kk : IntKind} (hk : P.underlying kt = some (.int kk)) (b : Bool) (k : IntKind) (n : Int) : (Instr.checkKey b 10000 kt (.int k n)).run P w = .ok () w := by
  suffices H : ∀ m, (Instr.checkKey b (m + 1) kt (.int k n)).run P w = .ok () w from H 9999
  intro m
  simp only [Instr.checkKey, Sem.run_bind, run_underlying hk, Result.andThen_ok]
  rfl

theorem run_findKey_int {kt : TypeId} {kk : IntKind} (hk : P.underlying kt = some (.int kk)) {k : IntKind} {n : Int} {es : List (V × V)} {ents : List MapEntry} {r : Option (Nat × V)} (hr : relM P φ es ents) (hf : findI k n es 0 = some r) :
    ∃ r', (Instr.findKey kt (.int k n) ents).run P w = .ok r' w ∧ (match r, r' with
      | none, none => True
      | some (j, v), some (j', x) => j' = j ∧ relV P φ v x ∧ ∃ e, es[j]? = some (.I k n, v) ∧ ents[j]? = some e ∧ e.key = .int k n
      | _, _ => False) := by
  obtain ⟨r', h1, h2⟩ := findI_now (kk := kk) hr hf
  refine ⟨r', by simp only [Instr.findKey, Sem.run_bind, run_underlying hk, Result.andThen_ok, h1, Sem.run_pure], ?_⟩
  cases r with
  | none => cases r' with
    | none => trivial
    | some _ => exact h2
  | some jv => cases r' with
    | none => exact h2
    | some jx =>
      obtain ⟨j, v'⟩ := jv
      obtain ⟨j', x⟩ := jx
      obtain ⟨e1, e2, e3, e', e4, e5, e6⟩ := h2
      exact ⟨e1, e2, e', by simpa using e4, by simpa using e5, e6⟩

theorem run_getObj_map {g : Nat} {ents : Array MapEntry} {ck : Nat} (hg : w.heap[g]? = some (.map ents ck)) : (getObj g).run P w = .ok (.map ents ck) w := by
  simp [getObj, Sem.run, hg]

theorem mapElem_spec {t : TypeId} {z : V} (h : mapElem P t = some z) : ∃ kt et kk, P.underlying t = some (.map kt et) ∧ P.underlying kt = some (.int kk) ∧ zeroOf P et = some z := by
  unfold mapElem at h
  split at h
  · rename_i k e hu
    split at h
    · rename_i kk hk
      exact ⟨k, e, kk, hu, hk, h⟩
    · cases h
  · cases h

theorem relV_pair {v : V} {b : Bool} {x : Value} (r : relV P φ v x) : relV P φ (.T [v, .B b]) (.tuple #[x, .bool b]) :=
  relV_T.2 ⟨[x, .bool b], rfl, relVs_cons.2 ⟨x, [.bool b], rfl, r, relVs_cons.2 ⟨.bool b, [], rfl, relV_B.2 rfl, relVs_nil.2 rfl⟩⟩⟩

theorem run_lkp {t : TypeId} {z m key v : V} {ok : Bool} {vm vk : Value} (hz : mapElem P t = some z) (R : Rel P φ h w) (hl : lkp z ok m key h = some v) (rm : relV P φ m vm) (rk : relV P φ key vk) :
    ∃ y, (Instr.lookup t vm vk ok).run P w = .ok y w ∧ relV P φ v y := by
  obtain ⟨kt, et, kk, hu, hk, hzz⟩ := mapElem_spec hz
  obtain ⟨zv, hzr, _, rz, _⟩ := zeroOf_val (φ := φ) (w := w) hzz
  cases key <;> first | (simp [lkp] at hl; done) | skip
  rename_i k n
  obtain rfl := relV_I.1 rk
  cases m <;> first | (simp [lkp] at hl; done) | skip
  · rename_i b
    simp only [lkp] at hl
    split at hl
    · rename_i es hb
      obtain ⟨l, hL, rfl⟩ := relV_M.1 rm
      obtain ⟨l', hL', ents, ck, hg, hr⟩ := R.ok b _ hb
      rw [hL] at hL'; cases hL'
      split at hl
      · rename_i j v' hf
        obtain ⟨r', h1, h2⟩ := run_findKey_int (w := w) hk hr hf
        cases r' with
        | none => exact h2.elim
        | some jx =>
          obtain ⟨j', x⟩ := jx
          obtain ⟨_, rv, _⟩ := h2
          simp only [Instr.lookup, Sem.run_bind, run_underlying hu, Result.andThen_ok, run_getObj_map hg, Sem.run_pure, run_checkKey_int hk, h1]
          cases ok
          · simp at hl; subst hl; exact ⟨x, rfl, rv⟩
          · simp at hl; subst hl; exact ⟨_, rfl, relV_pair rv⟩
      · rename_i hf
        obtain ⟨r', h1, h2⟩ := run_findKey_int (w := w) hk hr hf
        cases r' with
        | some _ => exact h2.elim
        | none =>
          simp only [Instr.lookup, Sem.run_bind, run_underlying hu, Result.andThen_ok, run_getObj_map hg, Sem.run_pure, run_checkKey_int hk, h1, hzr]
          cases ok
          · simp at hl; subst hl; exact ⟨zv, rfl, rz⟩
          · simp at hl; subst hl; exact ⟨_, rfl, relV_pair rz⟩
      · cases hl
    · cases hl
  · obtain rfl := relV_M0.1 rm
    obtain ⟨r', h1, h2⟩ := run_findKey_int (w := w) (φ := φ) (P := P) (k := k) (n := n) (es := []) (ents := []) (r := none) hk rfl rfl
    cases r' with
    | some _ => exact h2.elim
    | none =>
      simp only [Instr.lookup, Sem.run_bind, run_underlying hu, Result.andThen_ok, Sem.run_pure, run_checkKey_int hk, h1, hzr]
      simp only [lkp] at hl
      cases ok
      · simp at hl; subst hl; exact ⟨zv, rfl, rz⟩
      · simp at hl; subst hl; exact ⟨_, rfl, relV_pair rz⟩

theorem relM_set : ∀ {es : List (V × V)} {ents : List MapEntry} {j : Nat} {k v : V} {e : MapEntry}, relM P φ es ents → relV P φ k e.key → relV P φ v e.val → relM P φ (es.set j (k, v)) (ents.set j e)
  | [], ents, j, k, v, e, r, _, _ => by simp only [relM] at r; subst r; simp [relM]
  | (k0, v0) :: es, ents, 0, k, v, e, r, hk, hv => by
    simp only [relM] at r
    obtain ⟨e0, ents', rfl, _, _, r⟩ := r
    simp only [List.set_cons_zero, relM]
    exact ⟨e, ents', rfl, hk, hv, r⟩
  | (k0, v0) :: es, ents, j + 1, k, v, e, r, hk, hv => by
    simp only [relM] at r
    obtain ⟨e0, ents', rfl, r1, r2, r⟩ := r
    simp only [List.set_cons_succ, relM]
    exact ⟨e0, _, rfl, r1, r2, relM_set r hk hv⟩

theorem relM_push : ∀ {es : List (V × V)} {ents : List MapEntry} {k v : V} {e : MapEntry}, relM P φ es ents → relV P φ k e.key → relV P φ v e.val → relM P φ (es ++ [(k, v)]) (ents ++ [e])
  | [], ents, k, v, e, r, hk, hv => by simp only [relM] at r; subst r; simp only [List.nil_append, relM]; exact ⟨e, [], rfl, hk, hv, rfl⟩
  | (k0, v0) :: es, ents, k, v, e, r, hk, hv => by
    simp only [relM] at r
    obtain ⟨e0, ents', rfl, r1, r2, r⟩ := r
    simp only [List.cons_append, relM]
    exact ⟨e0, _, rfl, r1, r2, relM_push r hk hv⟩

theorem relM_erase : ∀ {es : List (V × V)} {ents : List MapEntry} {j : Nat}, relM P φ es ents → relM P φ (es.eraseIdx j) (ents.eraseIdx j)
  | [], ents, j, r => by simp only [relM] at r; subst r; simp [relM]
  | (k0, v0) :: es, ents, 0, r => by
    simp only [relM] at r
    obtain ⟨e0, ents', rfl, r1, r2, r⟩ := r
    simpa using r
  | (k0, v0) :: es, ents, j + 1, r => by
    simp only [relM] at r
    obtain ⟨e0, ents', rfl, r1, r2, r⟩ := r
    simp only [List.eraseIdx_cons_succ, relM]
    exact ⟨e0, _, rfl, r1, r2, relM_erase r⟩

theorem run_setObj_map {g : Nat} {ents : Array MapEntry} {ck : Nat} (hg : w.heap[g]? = some (.map ents ck)) (o : Obj) : (setObj g o).run P w = .ok () (setObjW w g o) := by
  simp [setObj, Sem.run, hg, setObjW]

theorem run_mup {t : TypeId} {kt et : TypeId} {kk : IntKind} {m key x : V} {vm vk vx : Value} {h' : H} (hu : P.underlying t = some (.map kt et)) (hk : P.underlying kt = some (.int kk)) (R : Rel P φ h w)
    (hs : mup m key x h = some h') (rm : relV P φ m vm) (rk : relV P φ key vk) (rx : relV P φ x vx) : ∃ w', (Instr.mapUpdate t vm vk vx).run P w = .ok () w' ∧ Rel P φ h' w' ∧ Keep φ h w φ h' w' := by
  cases m <;> cases key <;> first | (simp [mup] at hs; done) | skip
  rename_i b k n
  obtain rfl := relV_I.1 rk
  simp only [mup] at hs
  split at hs
  · rename_i es hb
    obtain ⟨l, hL, rfl⟩ := relV_M.1 rm
    obtain ⟨l', hL', ents, ck, hg, hr⟩ := R.ok b _ hb
    rw [hL] at hL'; cases hL'
    split at hs
    · rename_i j v' hf
      cases hs
      obtain ⟨r', h1, h2⟩ := run_findKey_int (w := w) hk hr hf
      cases r' with
      | none => exact h2.elim
      | some jx =>
        obtain ⟨j', y⟩ := jx
        obtain ⟨rfl, rv, e, e1, e2, e3⟩ := h2
        have e2' : ents[j']? = some e := by simpa using e2
        have hlt : j' < ents.size := (Array.getElem?_eq_some_iff.1 e2').1
        have hstay : (Instr.keyThatStays (((ents[j']?).map (·.key)).getD (.int k n)) (.int k n)).run P w = .ok (.int k n) w := by
          rw [e2']
          simp [Instr.keyThatStays, e3, Instr.sameBits]
        have hmod : (ents.modify j' fun e => { e with key := .int k n, val := vx }).toList = ents.toList.set j' { e with key := .int k n, val := vx } := by
          have hge : ents.toList[j']? = some e := e2
          rw [Array.toList_modify]
          apply List.ext_getElem?
          intro i
          rw [List.getElem?_modify, List.getElem?_set]
          by_cases hi : j' = i
          · subst hi
            have he : ents[j'] = e := (Array.getElem?_eq_some_iff.1 e2').2
            simp [hlt, he]
          · simp [hi]
        refine ⟨_, ?_, R.put_m hb hL hg (ck' := ck) (ents' := ents.modify j' fun e => { e with key := .int k n, val := vx }) ?_⟩
        · simp only [Instr.mapUpdate, Sem.run_bind, run_underlying hu, Result.andThen_ok, run_getObj_map hg, run_checkKey_int hk, h1, hstay]
          exact run_setObj_map hg _
        · rw [hmod]
          exact relM_set hr (relV_I.2 rfl) rx
    · rename_i hf
      cases hs
      obtain ⟨r', h1, h2⟩ := run_findKey_int (w := w) hk hr hf
      cases r' with
      | some _ => exact h2.elim
      | none =>
        refine ⟨_, ?_, R.put_m hb hL hg (ck' := ck + 1) (ents' := ents.push { key := .int k n, val := vx, born := ck }) ?_⟩
        · simp only [Instr.mapUpdate, Sem.run_bind, run_underlying hu, Result.andThen_ok, run_getObj_map hg, run_checkKey_int hk, h1]
          exact run_setObj_map hg _
        · rw [Array.toList_push]
          exact relM_push hr (relV_I.2 rfl) rx
    · cases hs
  · cases hs

theorem run_mdel {t kt et ty : TypeId} {kk : IntKind} {ts : Array TypeId} (hts : ts[0]? = some t) {m key : V} {vm vk : Value} {h' : H} (hu : P.underlying t = some (.map kt et)) (hk : P.underlying kt = some (.int kk)) (R : Rel P φ h w)
    (hs : mdel m key h = some h') (rm : relV P φ m vm) (rk : relV P φ key vk) : ∃ w', (Builtin.delete_ ts ty #[vm, vk]).run P w = .ok (.tuple #[]) w' ∧ Rel P φ h' w' ∧ Keep φ h w φ h' w' := by
  cases m <;> cases key <;> first | (simp [mdel] at hs; done) | skip
  · rename_i b k n
    obtain rfl := relV_I.1 rk
    simp only [mdel] at hs
    split at hs
    · rename_i es hb
      obtain ⟨l, hL, rfl⟩ := relV_M.1 rm
      obtain ⟨l', hL', ents, ck, hg, hr⟩ := R.ok b _ hb
      rw [hL] at hL'; cases hL'
      split at hs
      · rename_i j v' hf
        cases hs
        obtain ⟨r', h1, h2⟩ := run_findKey_int (w := w) hk hr hf
        cases r' with
        | none => exact h2.elim
        | some jx =>
          obtain ⟨j', y⟩ := jx
          obtain ⟨rfl, rv, e, e1, e2, e3⟩ := h2
          refine ⟨_, ?_, R.put_m hb hL hg (ck' := ck) (ents' := ents.eraseIdxIfInBounds j') ?_⟩
          · simp only [Builtin.delete_, hts]
            simp [run_setObj_map hg, run_underlying hu, run_getObj_map hg, run_checkKey_int hk, h1]
          · have : (ents.eraseIdxIfInBounds j').toList = ents.toList.eraseIdx j' := by simp
            rw [this]
            exact relM_erase hr
      · rename_i hf
        cases hs
        obtain ⟨r', h1, h2⟩ := run_findKey_int (w := w) hk hr hf
        cases r' with
        | some _ => exact h2.elim
        | none =>
          have hsame : setObjW w l.cb (.map ents ck) = w := by
            unfold setObjW
            have : w.heap.setIfInBounds l.cb (.map ents ck) = w.heap := by
              apply Array.ext_getElem?
              intro i
              rw [Array.getElem?_setIfInBounds]
              by_cases hi : l.cb = i
              · subst hi
                have hlt := (Array.getElem?_eq_some_iff.1 hg).1
                have he := (Array.getElem?_eq_some_iff.1 hg).2
                simp [hlt, he]
              · simp [hi]
            rw [this]
          refine ⟨w, ?_, R, Keep.refl _ _ _⟩
          simp only [Builtin.delete_, hts]
          simp [run_setObj_map hg, run_underlying hu, run_getObj_map hg, run_checkKey_int hk, h1, hsame]
      · cases hs
    · cases hs
  · rename_i k n
    obtain rfl := relV_I.1 rk
    obtain rfl := relV_M0.1 rm
    simp only [mdel, Option.some.injEq] at hs; subst hs
    refine ⟨w, ?_, R, Keep.refl _ _ _⟩
    simp only [Builtin.delete_, hts]
    simp [run_underlying hu, run_checkKey_int hk]

theorem run_mclr {t kt et ty : TypeId} {ts : Array TypeId} (hts : ts[0]? = some t) {m : V} {vm : Value} {h' : H} (hu : P.underlying t = some (.map kt et)) (R : Rel P φ h w)
    (hs : mclr m h = some h') (rm : relV P φ m vm) : ∃ w', (Builtin.clear_ ts ty #[vm]).run P w = .ok (.tuple #[]) w' ∧ Rel P φ h' w' ∧ Keep φ h w φ h' w' := by
  cases m <;> first | (simp [mclr] at hs; done) | skip
  · rename_i b
    simp only [mclr] at hs
    split at hs
    · rename_i es hb
      cases hs
      obtain ⟨l, hL, rfl⟩ := relV_M.1 rm
      obtain ⟨l', hL', ents, ck, hg, hr⟩ := R.ok b _ hb
      rw [hL] at hL'; cases hL'
      refine ⟨_, ?_, R.put_m hb hL hg (ck' := ck) (ents' := #[]) (by simp [relM])⟩
      simp only [Builtin.clear_, hts]
      simp [run_setObj_map hg, run_underlying hu, run_getObj_map hg]
    · cases hs
  · obtain rfl := relV_M0.1 rm
    simp only [mclr, Option.some.injEq] at hs; subst hs
    refine ⟨w, ?_, R, Keep.refl _ _ _⟩
    simp only [Builtin.clear_, hts]
    simp [run_underlying hu]

end
end Go.Proofs.YtnnebakkcdclmaaGreat.AM
