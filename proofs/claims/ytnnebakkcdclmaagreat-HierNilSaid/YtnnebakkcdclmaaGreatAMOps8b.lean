/-
  Proved here, for every program: a part of the soundness of an abstract machine against the model: lemmas. Conditions: none.
-/
import Derived.Test.YtnnebakkcdclmaaGreatAMOps8
import Derived.WideKeyArr
namespace Go.Proofs.YtnnebakkcdclmaaGreat.AM
open Go.WideMaps
section
variable {P : Program} {φ : Phi} {w : World} {h : H}

theorem arrK_spec {kt : TypeId} {a : AK} (ha : arrK P kt = some a) : ArrKey P kt a.e a.n ∧ P.underlying a.e = some (.int a.q) ∧ ∃ m, P.types.size = m + 1 := by
  unfold arrK at ha
  split at ha
  · rename_i n e hu
    split at ha
    · rename_i q hq
      split at ha
      · rename_i hc
        simp only [Option.some.injEq] at ha
        subst ha
        simp only [Bool.and_eq_true, decide_eq_true_eq] at hc
        exact ⟨⟨hu, by simp [Program.plainKey, hq], hc.1.1, hc.1.2⟩, hq, ⟨P.types.size - 1, by omega⟩⟩
      · cases ha
    · cases ha
  · cases ha

theorem mapM_all {α β : Type} {f : α → Option β} : ∀ {l : List α}, (∀ x ∈ l, ∃ y, f x = some y) → ∃ ys, l.mapM f = some ys
  | [], _ => ⟨[], rfl⟩
  | x :: l, hf => by
    obtain ⟨y, hy⟩ := hf x (by simp)
    obtain ⟨ys, hys⟩ := mapM_all (l := l) fun z hz => hf z (by simp [hz])
    exact ⟨y :: ys, by simp [List.mapM_cons, hy, hys]⟩

theorem ints_cells {q : IntKind} : ∀ {vs : List V} {cs : List Value}, intsOk q vs = true → relA P φ 1 vs cs → cs.length = vs.length ∧ ∀ (i : Nat) c, cs[i]? = some c → ∃ n, c = .int q n ∧ (Lit.int q n).wf = true
  | [], cs, _, r => by simp only [relA] at r; subst r; exact ⟨rfl, fun i c hc => by simp at hc⟩
  | v :: vs, cs, hk, r => by
    cases v <;> first | (simp [intsOk] at hk; done) | skip
    rename_i q' n
    simp only [intsOk, Bool.and_eq_true, decide_eq_true_eq] at hk
    obtain ⟨⟨rfl, h1, h2⟩, hk⟩ := hk
    simp only [relA] at r
    obtain ⟨c1, c2, rfl, hl, r1, r2⟩ := r
    simp only [relC] at r1
    subst r1
    obtain ⟨e1, e2⟩ := ints_cells hk r2
    refine ⟨by simp [e1], fun i c hc => ?_⟩
    cases i with
    | zero => simp at hc; subst hc; exact ⟨n, rfl, by simp [Lit.wf, h1, h2]⟩
    | succ i => exact e2 i c (by simpa using hc)

theorem keyOf_arr {kt : TypeId} {a : AK} (ha : arrK P kt = some a) {key : V} (hk : keyOkA a key = true) {x : Value} (r : relV P φ key x) : ∃ l, keyOf P kt x = some l := by
  obtain ⟨A, hq, hsz⟩ := arrK_spec ha
  cases key <;> first | (simp [keyOkA] at hk; done) | skip
  rename_i e vs
  simp only [keyOkA, Bool.and_eq_true, decide_eq_true_eq] at hk
  obtain ⟨⟨rfl, hn⟩, hi⟩ := hk
  obtain ⟨cs, rc, rfl⟩ := relV_Ar.1 r
  simp only [relC] at rc
  rw [A.one] at rc
  obtain ⟨hlen, hc⟩ := ints_cells hi rc
  have hf : ∀ i ∈ List.range a.n, ∃ y, P.keyLits P.types.size a.e ((cs.drop (i * P.cellsOf a.e)).take (P.cellsOf a.e)) = some y := by
    intro i hi
    rw [List.mem_range] at hi
    have hlt : i < cs.length := by omega
    obtain ⟨m, hm⟩ := hsz
    rw [A.one, Nat.mul_one, List.drop_eq_getElem_cons hlt, List.take_succ_cons, List.take_zero, hm]
    obtain ⟨n, hn', hw⟩ := hc i _ (List.getElem?_eq_getElem hlt)
    rw [hn']
    exact ⟨[.int a.q n], by simp [Program.keyLits, hq, hw]⟩
  obtain ⟨ys, hys⟩ := mapM_all hf
  have hform : (Value.agg cs.toArray).formed P kt = true := by
    simp [Value.formed, A.hu, A.size]; omega
  refine ⟨.string (keyBytes ys.flatten), ?_⟩
  unfold keyOf
  rw [A.hu]
  simp only [A.keyType hsz, hform, Bool.and_self, if_true]
  simp only [Program.keyLits, A.hu, Value.cells]
  rw [if_pos (by simp [A.size]; omega), hys]
  rfl

/-- What is found among the entries. -/
theorem findA_spec {a : AK} {key : V} : ∀ {es : List (V × V)} {i : Nat} {l : List (Nat × V)}, findA a key es i = some l →
    (∀ e ∈ es, keyOkA a e.1 = true) ∧ (∀ j v, (j, v) ∈ l → i ≤ j ∧ es[j - i]? = some (key, v)) ∧ (∀ (j : Nat) v, es[j]? = some (key, v) → (i + j, v) ∈ l)
  | [], i, l, h => by
    simp only [findA, Option.some.injEq] at h
    subst h
    exact ⟨fun e he => by simp at he, fun j v hj => by simp at hj, fun j v hj => by simp at hj⟩
  | (k', v') :: es, i, l, h => by
    simp only [findA] at h
    split at h
    · rename_i hk
      simp only [Option.map_eq_some_iff] at h
      obtain ⟨l', h', rfl⟩ := h
      obtain ⟨h1, h2, h3⟩ := findA_spec h'
      refine ⟨?_, ?_, ?_⟩
      · intro e he
        rcases List.mem_cons.1 he with rfl | he
        · exact hk
        · exact h1 e he
      · intro j v hj
        have tail : (j, v) ∈ l' → i ≤ j ∧ ((k', v') :: es)[j - i]? = some (key, v) := by
          intro hj
          obtain ⟨g1, g2⟩ := h2 j v hj
          refine ⟨by omega, ?_⟩
          rw [show j - i = (j - (i + 1)) + 1 from by omega]
          simpa using g2
        split at hj
        · rename_i heq
          rcases List.mem_cons.1 hj with hj | hj
          · cases hj
            rw [V.eq_of heq]
            simp
          · exact tail hj
        · exact tail hj
      · intro j v hj
        cases j with
        | zero =>
          simp only [List.getElem?_cons_zero, Option.some.injEq, Prod.mk.injEq] at hj
          obtain ⟨rfl, rfl⟩ := hj
          rw [if_pos (V.eq_self _)]
          simp
        | succ j =>
          have := h3 j v (by simpa using hj)
          rw [show i + (j + 1) = i + 1 + j from by omega]
          split
          · exact List.mem_cons_of_mem _ this
          · exact this
    · cases h

theorem relM_get : ∀ {es : List (V × V)} {ents : List MapEntry}, relM P φ es ents → es.length = ents.length ∧ ∀ (j : Nat) k v e, es[j]? = some (k, v) → ents[j]? = some e → relV P φ k e.key ∧ relV P φ v e.val
  | [], ents, r => by simp only [relM] at r; subst r; exact ⟨rfl, fun j k v e h => by simp at h⟩
  | (k0, v0) :: es, ents, r => by
    simp only [relM] at r
    obtain ⟨e0, ents', rfl, r1, r2, r⟩ := r
    obtain ⟨h1, h2⟩ := relM_get r
    refine ⟨by simp [h1], fun j k v e hj he => ?_⟩
    cases j with
    | zero => simp at hj he; obtain ⟨rfl, rfl⟩ := hj; subst he; exact ⟨r1, r2⟩
    | succ j => exact h2 j k v e (by simpa using hj) (by simpa using he)

/-- Trees of integers are told apart by their cells. -/
theorem ints_inj {q : IntKind} : ∀ {vs us : List V} {cs : List Value}, intsOk q vs = true → intsOk q us = true → relA P φ 1 vs cs → relA P φ 1 us cs → vs = us
  | [], us, cs, _, hu, r, r' => by
    simp only [relA] at r; subst r
    cases us with
    | nil => rfl
    | cons u us =>
      simp only [relA] at r'
      obtain ⟨c1, c2, e, hl, _⟩ := r'
      have := congrArg List.length e
      simp at this; omega
  | v :: vs, us, cs, hv, hu, r, r' => by
    simp only [relA] at r
    obtain ⟨c1, c2, rfl, hl, r1, r2⟩ := r
    cases us with
    | nil =>
      simp only [relA] at r'
      rw [(List.append_eq_nil_iff.1 r').1] at hl
      simp at hl
    | cons u us =>
      simp only [relA] at r'
      obtain ⟨d1, d2, e, hl', s1, s2⟩ := r'
      obtain ⟨rfl, rfl⟩ := List.append_inj e (by omega)
      cases v <;> first | (simp [intsOk] at hv; done) | skip
      cases u <;> first | (simp [intsOk] at hu; done) | skip
      simp only [intsOk, Bool.and_eq_true] at hv hu
      simp only [relC] at r1 s1
      rw [r1] at s1
      simp only [List.cons.injEq, Value.int.injEq, and_true] at s1
      rw [ints_inj hv.2 hu.2 r2 s2, s1.1, s1.2]

theorem keys_inj {kt : TypeId} {a : AK} (ha : arrK P kt = some a) {k1 k2 : V} (h1 : keyOkA a k1 = true) (h2 : keyOkA a k2 = true) {x : Value} (r1 : relV P φ k1 x) (r2 : relV P φ k2 x) : k1 = k2 := by
  obtain ⟨A, hq, hsz⟩ := arrK_spec ha
  cases k1 <;> first | (simp [keyOkA] at h1; done) | skip
  cases k2 <;> first | (simp [keyOkA] at h2; done) | skip
  simp only [keyOkA, Bool.and_eq_true, decide_eq_true_eq] at h1 h2
  obtain ⟨cs, rc, rfl⟩ := relV_Ar.1 r1
  obtain ⟨ds, rd, e⟩ := relV_Ar.1 r2
  have : cs = ds := by simpa using e
  subst this
  simp only [relC] at rc rd
  obtain ⟨⟨rfl, _⟩, i1⟩ := h1
  obtain ⟨⟨rfl, _⟩, i2⟩ := h2
  rw [A.one] at rc rd
  rw [ints_inj i1 i2 rc rd]


theorem ints_fun {q : IntKind} : ∀ {vs : List V} {cs ds : List Value}, intsOk q vs = true → relA P φ 1 vs cs → relA P φ 1 vs ds → cs = ds
  | [], cs, ds, _, r, r' => by simp only [relA] at r r'; rw [r, r']
  | v :: vs, cs, ds, hv, r, r' => by
    cases v <;> first | (simp [intsOk] at hv; done) | skip
    simp only [intsOk, Bool.and_eq_true] at hv
    simp only [relA] at r r'
    obtain ⟨c1, c2, rfl, _, r1, r2⟩ := r
    obtain ⟨d1, d2, rfl, _, s1, s2⟩ := r'
    simp only [relC] at r1 s1
    rw [r1, s1, ints_fun hv.2 r2 s2]

theorem keys_fun {kt : TypeId} {a : AK} (ha : arrK P kt = some a) {k : V} (h1 : keyOkA a k = true) {x y : Value} (r1 : relV P φ k x) (r2 : relV P φ k y) : x = y := by
  obtain ⟨A, hq, hsz⟩ := arrK_spec ha
  cases k <;> first | (simp [keyOkA] at h1; done) | skip
  simp only [keyOkA, Bool.and_eq_true, decide_eq_true_eq] at h1
  obtain ⟨cs, rc, rfl⟩ := relV_Ar.1 r1
  obtain ⟨ds, rd, rfl⟩ := relV_Ar.1 r2
  simp only [relC] at rc rd
  obtain ⟨⟨rfl, _⟩, i1⟩ := h1
  rw [A.one] at rc rd
  rw [ints_fun i1 rc rd]

theorem find_arr {kt : TypeId} {a : AK} (ha : arrK P kt = some a) {key : V} {vk : Value} {es : List (V × V)} {ents : List MapEntry} {l : List (Nat × V)} (hk : keyOkA a key = true) (rk : relV P φ key vk) (hr : relM P φ es ents)
    (hf : findA a key es 0 = some l) : (l = [] → (Instr.findKey kt vk ents).run P w = .ok none w) ∧
      ∀ j v, l = [(j, v)] → ∃ e, (Instr.findKey kt vk ents).run P w = .ok (some (j, e.val)) w ∧ ents[j]? = some e ∧ e.key = vk ∧ relV P φ v e.val := by
  obtain ⟨A, hq, hsz⟩ := arrK_spec ha
  obtain ⟨lk, hlk⟩ := keyOf_arr ha hk rk
  obtain ⟨f1, f2, f3⟩ := findA_spec hf
  obtain ⟨g1, g2⟩ := relM_get hr
  have gets : ∀ (j : Nat) e, ents[j]? = some e → ∃ k v, es[j]? = some (k, v) ∧ keyOkA a k = true ∧ relV P φ k e.key ∧ relV P φ v e.val := by
    intro j e he
    have hlt : j < es.length := by rw [g1]; exact (List.getElem?_eq_some_iff.1 he).1
    have hg : es[j]? = some (es[j].1, es[j].2) := List.getElem?_eq_getElem hlt
    obtain ⟨q1, q2⟩ := g2 j _ _ e hg he
    exact ⟨_, _, hg, f1 _ (List.getElem_mem hlt), q1, q2⟩
  have hall : ∀ e ∈ ents, ∃ l, keyOf P kt e.key = some l := by
    intro e he
    obtain ⟨j, hj⟩ := List.getElem?_of_mem he
    obtain ⟨k, v, _, q2, q3, _⟩ := gets j e hj
    exact keyOf_arr ha q2 q3
  rcases A.law.find w hlk ents hall with ⟨hrun, hne⟩ | ⟨j', e', hrun, he', hkey⟩
  · refine ⟨fun _ => hrun, fun j v hl => ?_⟩
    subst hl
    obtain ⟨_, hes⟩ := f2 j v (by simp)
    rw [Nat.sub_zero] at hes
    have hlt : j < ents.length := by rw [← g1]; exact (List.getElem?_eq_some_iff.1 hes).1
    have hen : ents[j]? = some ents[j] := List.getElem?_eq_getElem hlt
    obtain ⟨q1, _⟩ := g2 j _ _ _ hes hen
    exact absurd (keys_fun ha hk q1 rk) (hne _ (List.getElem_mem hlt))
  · obtain ⟨k, v', hes, hko, q1, q2⟩ := gets j' e' he'
    rw [hkey] at q1
    have := keys_inj ha hko hk q1 rk
    subst this
    have hm := f3 j' v' hes
    rw [Nat.zero_add] at hm
    refine ⟨fun hl => by subst hl; simp at hm, fun j v hl => ?_⟩
    subst hl
    simp only [List.mem_singleton, Prod.mk.injEq] at hm
    obtain ⟨rfl, rfl⟩ := hm
    exact ⟨e', hrun, he', hkey, q2⟩


theorem mapElemA_spec {t : TypeId} {a : AK} {z : V} (h : mapElemA P t = some (a, z)) : ∃ kt et, P.underlying t = some (.map kt et) ∧ arrK P kt = some a ∧ zeroOf P et = some z := by
  unfold mapElemA at h
  split at h
  · rename_i k e hu
    split at h
    · rename_i a' z' h1 h2
      simp only [Option.some.injEq, Prod.mk.injEq] at h
      obtain ⟨rfl, rfl⟩ := h
      exact ⟨k, e, hu, h1, h2⟩
    · cases h
  · cases h

theorem run_lkpA {t : TypeId} {a : AK} {z m key v : V} {ok : Bool} {vm vk : Value} (hz : mapElemA P t = some (a, z)) (R : Rel P φ h w) (hl : lkpA a z ok m key h = some v) (rm : relV P φ m vm) (rk : relV P φ key vk) :
    ∃ y, (Instr.lookup t vm vk ok).run P w = .ok y w ∧ relV P φ v y := by
  obtain ⟨kt, et, hu, ha, hzz⟩ := mapElemA_spec hz
  obtain ⟨zv, hzr, _, rz, _⟩ := zeroOf_val (φ := φ) (w := w) hzz
  unfold lkpA at hl
  split at hl
  · rename_i hk
    obtain ⟨lk, hlk⟩ := keyOf_arr ha hk rk
    have A := (arrK_spec ha).1
    cases m <;> first | (simp [entsA] at hl; done) | skip
    · rename_i b
      simp only [entsA] at hl
      cases hb : h.get b with
      | none => simp [hb] at hl
      | some blk =>
      cases blk with
      | c _ _ => simp [hb] at hl
      | m es =>
      simp only [hb] at hl
      obtain ⟨l, hL, rfl⟩ := relV_M.1 rm
      obtain ⟨l', hL', ents, ck, hg, hr⟩ := R.ok b _ hb
      rw [hL] at hL'; cases hL'
      split at hl
      · rename_i hf
        have h1 := (find_arr (w := w) ha hk rk hr hf).1 rfl
        simp only [Instr.lookup, Sem.run_bind, run_underlying hu, Result.andThen_ok, run_getObj_map hg, Sem.run_pure, A.law.check w _ hlk, h1, hzr]
        cases ok
        · simp at hl; subst hl; exact ⟨zv, rfl, rz⟩
        · simp at hl; subst hl; exact ⟨_, rfl, relV_pair rz⟩
      · rename_i j v' hf
        obtain ⟨e, h1, _, _, rv⟩ := (find_arr (w := w) ha hk rk hr hf).2 j v' rfl
        simp only [Instr.lookup, Sem.run_bind, run_underlying hu, Result.andThen_ok, run_getObj_map hg, Sem.run_pure, A.law.check w _ hlk, h1]
        cases ok
        · simp at hl; subst hl; exact ⟨_, rfl, rv⟩
        · simp at hl; subst hl; exact ⟨_, rfl, relV_pair rv⟩
      · cases hl
    · obtain rfl := relV_M0.1 rm
      simp only [entsA] at hl
      have hr : relM P φ [] (#[] : Array MapEntry).toList := by simp [relM]
      split at hl
      · rename_i hf
        have h1 := (find_arr (w := w) ha hk rk hr hf).1 rfl
        simp only [Instr.lookup, Sem.run_bind, run_underlying hu, Result.andThen_ok, Sem.run_pure, A.law.check w _ hlk, h1, hzr]
        cases ok
        · simp at hl; subst hl; exact ⟨zv, rfl, rz⟩
        · simp at hl; subst hl; exact ⟨_, rfl, relV_pair rz⟩
      · rename_i j v' hf
        obtain ⟨e, h1, _, _, rv⟩ := (find_arr (w := w) ha hk rk hr hf).2 j v' rfl
        simp only [Instr.lookup, Sem.run_bind, run_underlying hu, Result.andThen_ok, Sem.run_pure, A.law.check w _ hlk, h1]
        cases ok
        · simp at hl; subst hl; exact ⟨_, rfl, rv⟩
        · simp at hl; subst hl; exact ⟨_, rfl, relV_pair rv⟩
      · cases hl
  · cases hl


theorem run_mupA {t : TypeId} {kt et : TypeId} {a : AK} {m key x : V} {vm vk vx : Value} {h' : H} (hu : P.underlying t = some (.map kt et)) (ha : arrK P kt = some a) (R : Rel P φ h w)
    (hs : mupA a m key x h = some h') (rm : relV P φ m vm) (rk : relV P φ key vk) (rx : relV P φ x vx) : ∃ w', (Instr.mapUpdate t vm vk vx).run P w = .ok () w' ∧ Rel P φ h' w' ∧ Keep φ h w φ h' w' := by
  unfold mupA at hs
  split at hs
  · rename_i hk
    obtain ⟨lk, hlk⟩ := keyOf_arr ha hk rk
    have A := (arrK_spec ha).1
    cases m <;> first | (simp at hs; done) | skip
    rename_i b
    simp only at hs
    cases hb : h.get b with
    | none => simp [hb] at hs
    | some blk =>
    cases blk with
    | c _ _ => simp [hb] at hs
    | m es =>
    simp only [hb] at hs
    obtain ⟨l, hL, rfl⟩ := relV_M.1 rm
    obtain ⟨l', hL', ents, ck, hg, hr⟩ := R.ok b _ hb
    rw [hL] at hL'; cases hL'
    split at hs
    · rename_i hf
      cases hs
      have h1 := (find_arr (w := w) ha hk rk hr hf).1 rfl
      refine ⟨_, ?_, R.put_m hb hL hg (ck' := ck + 1) (ents' := ents.push { key := vk, val := vx, born := ck }) ?_⟩
      · simp only [Instr.mapUpdate, Sem.run_bind, run_underlying hu, Result.andThen_ok, run_getObj_map hg, A.law.check w _ hlk, h1]
        exact run_setObj_map hg _
      · rw [Array.toList_push]
        exact relM_push hr rk rx
    · rename_i j v' hf
      cases hs
      obtain ⟨e, h1, e2, e3, rv⟩ := (find_arr (w := w) ha hk rk hr hf).2 j v' rfl
      have e2' : ents[j]? = some e := by simpa using e2
      have hlt : j < ents.size := (Array.getElem?_eq_some_iff.1 e2').1
      have hstay : (Instr.keyThatStays (((ents[j]?).map (·.key)).getD vk) vk).run P w = .ok vk w := by
        rw [e2']
        simp only [Option.map_some, Option.getD_some, e3]
        exact A.law.stays w hlk
      have hmod : (ents.modify j fun e => { e with key := vk, val := vx }).toList = ents.toList.set j { e with key := vk, val := vx } := by
        have hge : ents.toList[j]? = some e := e2
        rw [Array.toList_modify]
        apply List.ext_getElem?
        intro i
        rw [List.getElem?_modify, List.getElem?_set]
        by_cases hi : j = i
        · subst hi
          have he : ents[j] = e := (Array.getElem?_eq_some_iff.1 e2').2
          simp [hlt, he]
        · simp [hi]
      refine ⟨_, ?_, R.put_m hb hL hg (ck' := ck) (ents' := ents.modify j fun e => { e with key := vk, val := vx }) ?_⟩
      · simp only [Instr.mapUpdate, Sem.run_bind, run_underlying hu, Result.andThen_ok, run_getObj_map hg, A.law.check w _ hlk, h1, hstay]
        exact run_setObj_map hg _
      · rw [hmod]
        exact relM_set hr rk rx
    · cases hs
  · cases hs

end
end Go.Proofs.YtnnebakkcdclmaaGreat.AM
