/-
  Proved here, for every program: a part of the soundness of an abstract machine against the model: a run over more memory is the same. Conditions: none.
-/
import Derived.Test.YtnnebakkcdclmaaGreatAMRel
/-
  What a run does not see does not matter: a run over some memory is the same over memory that holds more; what it did not see stays.
-/
namespace Go.Proofs.YtnnebakkcdclmaaGreat.AM

/-- s is b without some blocks; those of U are not in s, and are in b as they were. -/
structure Fr (U : Nat → Prop) (b0 s b : H) : Prop where
  next : s.next = b.next
  sub : ∀ i x, s.get i = some x → b.get i = some x
  un : ∀ i, U i → i < s.next ∧ s.get i = none ∧ b.get i = b0.get i
  lt : ∀ i x, s.get i = some x → i < s.next

section
variable {U : Nat → Prop} {b0 s b : H} {P : Program}

theorem Fr.put (F : Fr U b0 s b) {i : Nat} {x : Blk} (hi : s.get i = some x) (y : Option Blk) : Fr U b0 (s.put i y) (b.put i y) := by
  refine ⟨F.next, fun j z hj => ?_, fun j hj => ?_, fun j z hj => ?_⟩
  · rw [H.get_put] at hj ⊢
    split
    · rename_i h; rwa [if_pos h] at hj
    · rename_i h; rw [if_neg h] at hj; exact F.sub j z hj
  · obtain ⟨h1, h2, h3⟩ := F.un j hj
    have hne : j ≠ i := fun e => by subst e; rw [h2] at hi; cases hi
    refine ⟨h1, ?_, ?_⟩
    · rw [H.get_put, if_neg hne]; exact h2
    · rw [H.get_put, if_neg hne]; exact h3
  · rw [H.get_put] at hj
    rw [H.next_put]
    by_cases h : j = i
    · subst h; exact F.lt _ _ hi
    · rw [if_neg h] at hj; exact F.lt j z hj

theorem Fr.new (F : Fr U b0 s b) (x : Blk) : Fr U b0 (s.new x) (b.new x) := by
  refine ⟨by simp only [H.next_new, F.next], fun j z hj => ?_, fun j hj => ?_, fun j z hj => ?_⟩
  · rw [H.get_new] at hj ⊢
    rw [← F.next]
    split
    · rename_i h; rwa [if_pos h] at hj
    · rename_i h; rw [if_neg h] at hj; exact F.sub j z hj
  · obtain ⟨h1, h2, h3⟩ := F.un j hj
    refine ⟨by rw [H.next_new]; omega, ?_, ?_⟩
    · rw [H.get_new, if_neg (by omega)]; exact h2
    · rw [H.get_new, if_neg (by rw [← F.next]; omega)]; exact h3
  · rw [H.get_new] at hj
    rw [H.next_new]
    by_cases h : j = s.next
    · omega
    · rw [if_neg h] at hj; have := F.lt j z hj; omega

theorem ld_fr (F : Fr U b0 s b) {k : LK} {x v : V} (e : ld k x s = some v) : ld k x b = some v := by
  unfold ld at e ⊢
  cases x with
  | P i p =>
    simp only at e ⊢
    cases hs : s.get i with
    | none => rw [hs] at e; cases e
    | some y => rw [F.sub i y hs]; rw [hs] at e; exact e
  | _ => cases e

theorem sto_fr (F : Fr U b0 s b) {k : LK} {a x : V} {s' : H} (e : sto k a x s = some s') : ∃ b', sto k a x b = some b' ∧ Fr U b0 s' b' := by
  unfold sto at e ⊢
  cases a with
  | P i p =>
    simp only at e ⊢
    cases hs : s.get i with
    | none => rw [hs] at e; cases e
    | some y =>
      rw [F.sub i y hs]
      rw [hs] at e
      cases y with
      | m es => cases e
      | c bk v =>
        simp only at e ⊢
        split at e
        · cases e
        · rename_i hro
          rw [if_neg hro]
          split at e
          · rename_i u hu
            split at e
            · rename_i hok
              split at e
              · rename_i v' hv'
                cases e
                simp only [hok, if_true]
                exact ⟨_, rfl, F.put hs _⟩
              · cases e
            · cases e
          · cases e
  | _ => cases e

theorem lkp_fr (F : Fr U b0 s b) {z m key v : V} {ok : Bool} (e : lkp z ok m key s = some v) : lkp z ok m key b = some v := by
  unfold lkp at e ⊢
  cases key <;> try (cases e; done)
  simp only at e ⊢
  cases m <;> try (cases e; done)
  · rename_i i
    simp only at e ⊢
    cases hs : s.get i with
    | none => rw [hs] at e; cases e
    | some y => rw [F.sub i y hs]; rw [hs] at e; exact e
  · exact e

theorem ents_fr (F : Fr U b0 s b) {m : V} {es : List (V × V)} (e : entsA m s = some es) : entsA m b = some es := by
  unfold entsA at e ⊢
  cases m <;> try (cases e; done)
  · rename_i i
    simp only at e ⊢
    cases hs : s.get i with
    | none => rw [hs] at e; cases e
    | some y => rw [F.sub i y hs]; rw [hs] at e; exact e
  · exact e

theorem lkpA_fr (F : Fr U b0 s b) {a : AK} {z m key v : V} {ok : Bool} (e : lkpA a z ok m key s = some v) : lkpA a z ok m key b = some v := by
  unfold lkpA at e ⊢
  split at e
  · rename_i hk
    rw [if_pos hk]
    cases he : entsA m s with
    | none => rw [he] at e; cases e
    | some es => rw [ents_fr F he]; rw [he] at e; exact e
  · cases e

theorem mup_fr (F : Fr U b0 s b) {m k x : V} {s' : H} (e : mup m k x s = some s') : ∃ b', mup m k x b = some b' ∧ Fr U b0 s' b' := by
  unfold mup at e ⊢
  cases m <;> try (cases e; done)
  cases k <;> try (cases e; done)
  rename_i i k n
  simp only at e ⊢
  cases hs : s.get i with
  | none => rw [hs] at e; cases e
  | some y =>
    rw [F.sub i y hs]
    rw [hs] at e
    cases y with
    | c bk v => cases e
    | m es =>
      simp only at e ⊢
      split at e
      · cases e; exact ⟨_, rfl, F.put hs _⟩
      · cases e; exact ⟨_, rfl, F.put hs _⟩
      · cases e

theorem mupA_fr (F : Fr U b0 s b) {a : AK} {m k x : V} {s' : H} (e : mupA a m k x s = some s') : ∃ b', mupA a m k x b = some b' ∧ Fr U b0 s' b' := by
  unfold mupA at e ⊢
  split at e
  · rename_i hk
    rw [if_pos hk]
    cases m <;> try (cases e; done)
    rename_i i
    simp only at e ⊢
    cases hs : s.get i with
    | none => rw [hs] at e; cases e
    | some y =>
      rw [F.sub i y hs]
      rw [hs] at e
      cases y with
      | c bk v => cases e
      | m es =>
        simp only at e ⊢
        split at e
        · cases e; exact ⟨_, rfl, F.put hs _⟩
        · cases e; exact ⟨_, rfl, F.put hs _⟩
        · cases e
  · cases e

theorem mdel_fr (F : Fr U b0 s b) {m k : V} {s' : H} (e : mdel m k s = some s') : ∃ b', mdel m k b = some b' ∧ Fr U b0 s' b' := by
  unfold mdel at e ⊢
  cases m <;> try (cases e; done)
  all_goals cases k <;> try (cases e; done)
  · rename_i i k n
    simp only at e ⊢
    cases hs : s.get i with
    | none => rw [hs] at e; cases e
    | some y =>
      rw [F.sub i y hs]
      rw [hs] at e
      cases y with
      | c bk v => cases e
      | m es =>
        simp only at e ⊢
        split at e
        · cases e; exact ⟨_, rfl, F.put hs _⟩
        · cases e; exact ⟨_, rfl, F⟩
        · cases e
  · cases e; exact ⟨_, rfl, F⟩

theorem mclr_fr (F : Fr U b0 s b) {m : V} {s' : H} (e : mclr m s = some s') : ∃ b', mclr m b = some b' ∧ Fr U b0 s' b' := by
  unfold mclr at e ⊢
  cases m <;> try (cases e; done)
  · rename_i i
    simp only at e ⊢
    cases hs : s.get i with
    | none => rw [hs] at e; cases e
    | some y =>
      rw [F.sub i y hs]
      rw [hs] at e
      cases y with
      | c bk v => cases e
      | m es => cases e; exact ⟨_, rfl, F.put hs _⟩
  · cases e; exact ⟨_, rfl, F⟩

theorem elems_fr (F : Fr U b0 s b) {e : Nat} {x : V} {vs : List V} (he : elems e x s = some vs) : elems e x b = some vs := by
  unfold elems at he ⊢
  cases x <;> try (cases he; done)
  · rename_i i p t st n c op
    simp only at he ⊢
    split at he
    · rename_i h0; rw [if_pos h0]; exact he
    · rename_i h0
      rw [if_neg h0]
      cases hs : s.get i with
      | none => rw [hs] at he; cases he
      | some y => rw [F.sub i y hs]; rw [hs] at he; exact he
  · exact he

theorem app_fr (F : Fr U b0 s b) {e : Nat} {k : LK} {x y v : V} {s' : H} (he : app e k x y s = some (v, s')) : ∃ b', app e k x y b = some (v, b') ∧ Fr U b0 s' b' := by
  unfold app at he ⊢
  cases h1 : elems e y s with
  | none => rw [h1] at he; cases he
  | some ys =>
    rw [h1] at he
    rw [elems_fr F h1]
    simp only at he ⊢
    split at he
    · cases he
    · rename_i hok
      rw [if_neg hok]
      cases x <;> try (cases he; done)
      · rename_i i p t st n c op
        simp only at he ⊢
        split at he
        · cases he
        · rename_i ht
          rw [if_neg ht]
          split at he
          · rename_i hy
            rw [if_pos hy]
            cases he
            exact ⟨_, rfl, F⟩
          · rename_i hy
            rw [if_neg hy]
            split at he
            · rename_i hn
              rw [if_pos hn]
              cases hs : s.get i with
              | none => rw [hs] at he; cases he
              | some z =>
                rw [F.sub i z hs]
                rw [hs] at he
                cases z with
                | m es => cases he
                | c bk w =>
                  simp only at he ⊢
                  split at he
                  · cases he
                  · rename_i hro
                    rw [if_neg hro]
                    split at he
                    · rename_i t' vs hat
                      split at he
                      · rename_i hc
                        split at he
                        · rename_i v' hv'
                          cases he
                          simp only [hc, and_self, if_true]
                          exact ⟨_, rfl, F.put hs _⟩
                        · cases he
                      · cases he
                    · cases he
            · rename_i hn
              rw [if_neg hn]
              cases h2 : elems e (.L i p t st n c op) s with
              | none => rw [h2] at he; cases he
              | some xs =>
                rw [h2] at he
                rw [elems_fr F h2]
                simp only at he ⊢
                split at he
                · cases he
                · rename_i hb
                  rw [if_neg hb]
                  cases op with
                  | false =>
                    simp only [Bool.false_eq_true, if_false, Option.some.injEq, Prod.mk.injEq] at he ⊢
                    obtain ⟨rfl, rfl⟩ := he
                    refine ⟨_, ⟨?_, rfl⟩, F.new _⟩
                    rw [F.next]
                  | true =>
                    simp only [if_true] at he ⊢
                    cases hs : s.get i with
                    | none => rw [hs] at he; cases he
                    | some z =>
                      rw [F.sub i z hs]
                      rw [hs] at he
                      cases z with
                      | m es => cases he
                      | c bk w =>
                        cases bk with
                        | rw => cases he
                        | ro => cases he
                        | op =>
                          simp only at he ⊢
                          by_cases hp : p = []
                          · simp only [hp, if_true, Option.some.injEq, Prod.mk.injEq] at he ⊢
                            obtain ⟨rfl, rfl⟩ := he
                            refine ⟨_, ⟨?_, rfl⟩, (F.put hs _).new _⟩
                            rw [F.next]
                          · simp only [hp, if_false] at he
                            cases he
      · simp only at he ⊢
        split at he
        · rename_i hy
          rw [if_pos hy]
          cases he
          exact ⟨_, rfl, F⟩
        · rename_i hy
          rw [if_neg hy]
          split at he
          · cases he
          · rename_i hb
            rw [if_neg hb]
            simp only [Option.some.injEq, Prod.mk.injEq] at he ⊢
            obtain ⟨rfl, rfl⟩ := he
            refine ⟨_, ⟨?_, rfl⟩, F.new _⟩
            rw [F.next]

theorem cpy_fr (F : Fr U b0 s b) {e : Nat} {k : LK} {x y v : V} {s' : H} (he : cpy e k x y s = some (v, s')) : ∃ b', cpy e k x y b = some (v, b') ∧ Fr U b0 s' b' := by
  unfold cpy at he ⊢
  cases h1 : elems e y s with
  | none => rw [h1] at he; cases he
  | some ys =>
    rw [h1] at he
    rw [elems_fr F h1]
    cases hl : lenS x with
    | none => rw [hl] at he; cases he
    | some n =>
      rw [hl] at he
      simp only at he ⊢
      split at he
      · cases he
      · rename_i hok
        rw [if_neg hok]
        cases x <;> try (cases he; done)
        · rename_i i p t st n0 c op
          simp only at he ⊢
          split at he
          · rename_i h0
            rw [if_pos h0]
            cases he
            exact ⟨_, rfl, F⟩
          · rename_i h0
            rw [if_neg h0]
            cases hs : s.get i with
            | none => rw [hs] at he; cases he
            | some z =>
              rw [F.sub i z hs]
              rw [hs] at he
              cases z with
              | m es => cases he
              | c bk w =>
                simp only at he ⊢
                split at he
                · cases he
                · rename_i hro
                  rw [if_neg hro]
                  split at he
                  · rename_i t' vs hat
                    split at he
                    · rename_i hc
                      split at he
                      · rename_i v' hv'
                        simp only [Option.some.injEq, Prod.mk.injEq] at he
                        obtain ⟨rfl, rfl⟩ := he
                        rw [if_pos hc]
                        exact ⟨_, rfl, F.put hs _⟩
                      · cases he
                    · cases he
                  · cases he
        · cases he
          exact ⟨_, rfl, F⟩

theorem evV_fr (F : Fr U b0 s b) {E : Env} {o : Oper} {v : V} (e : evV P E s o = some v) : evV P E b o = some v := by
  unfold evV at e ⊢
  cases hop : o.op <;> rw [hop] at e <;> try exact e
  · rename_i t a
    simp only at e ⊢
    cases hk : kind P t with
    | none => rw [hk] at e; cases e
    | some k => rw [hk] at e; exact ld_fr F e
  · rename_i t m k ok
    simp only at e ⊢
    cases hk : mapElem P t with
    | some z => rw [hk] at e; exact lkp_fr F e
    | none =>
      rw [hk] at e
      simp only at e ⊢
      cases hk2 : mapElemA P t with
      | none => rw [hk2] at e; cases e
      | some az => rw [hk2] at e; exact lkpA_fr F e

/-- What a call does, it does over more. -/
def CallFr (U : Nat → Prop) (b0 : H) (call call' : CallT) : Prop := ∀ f args s b v s', Fr U b0 s b → call f args s = some (v, s') → ∃ b', call' f args b = some (v, b') ∧ Fr U b0 s' b'

theorem evE_fr {call call' : CallT} (hC : CallFr U b0 call call') (F : Fr U b0 s b) {E : Env} {o : Oper} {v : V} {s' : H} (e : evE P call E s o = some (v, s')) : ∃ b', evE P call' E b o = some (v, b') ∧ Fr U b0 s' b' := by
  unfold evE at e ⊢
  have mp : ∀ {x y : Option H}, (x.map fun h => (dd, h)) = some (v, s') → (∀ s', x = some s' → ∃ b', y = some b' ∧ Fr U b0 s' b') → ∃ b', (y.map fun h => (dd, h)) = some (v, b') ∧ Fr U b0 s' b' := by
    intro x y h1 h2
    simp only [Option.map_eq_some_iff, Prod.mk.injEq] at h1
    obtain ⟨s1, rfl, rfl, rfl⟩ := h1
    obtain ⟨b', rfl, F'⟩ := h2 _ rfl
    exact ⟨b', rfl, F'⟩
  cases hop : o.op <;> rw [hop] at e <;> try (cases e; done)
  all_goals simp only at e ⊢
  case store t a x =>
    cases hk : kind P t with
    | none => rw [hk] at e; cases e
    | some k => rw [hk] at e; exact mp e fun s' h => sto_fr F h
  case mapUpdate t m k x =>
    repeat' split at e
    all_goals first
      | (cases e; done)
      | (simp only [*]
         first
          | exact mp e fun s' h => mup_fr F h
          | exact mp e fun s' h => mupA_fr F h)
  case insert t m k x =>
    repeat' split at e
    all_goals first
      | (cases e; done)
      | (simp only [*]
         first
          | exact mp e fun s' h => mup_fr F h
          | exact mp e fun s' h => mupA_fr F h)
  case call c =>
    repeat' split at e
    all_goals first
      | (cases e; done)
      | (try simp only [*]
         first
          | exact hC _ _ _ _ _ _ F e
          | exact app_fr F e
          | exact cpy_fr F e
          | exact mp e fun s' h => mdel_fr F h
          | exact mp e fun s' h => mclr_fr F h)

theorem mkB_fr (F : Fr U b0 s b) {x : Option (Blk × Mk)} {v : V} {s' : H} (e : mkB s x = some (v, s')) : ∃ b', mkB b x = some (v, b') ∧ Fr U b0 s' b' := by
  cases x with
  | none => cases e
  | some p =>
    obtain ⟨blk, m⟩ := p
    simp only [mkB, Option.some.injEq, Prod.mk.injEq] at e ⊢
    obtain ⟨rfl, rfl⟩ := e
    exact ⟨_, ⟨by rw [F.next], rfl⟩, F.new _⟩

theorem gV_fr {w : Bool} {x y : Unit → Option V} {v : V} (h : ∀ v, x () = some v → y () = some v) (e : gV w x = some v) : gV w y = some v := by
  cases w with
  | true => exact h _ e
  | false => exact e

theorem gE_fr (F : Fr U b0 s b) {w : Bool} {x y : Unit → Option (V × H)} {v : V} {s' : H} (h : ∀ v s', x () = some (v, s') → ∃ b', y () = some (v, b') ∧ Fr U b0 s' b') (e : gE w s x = some (v, s')) : ∃ b', gE w b y = some (v, b') ∧ Fr U b0 s' b' := by
  cases w with
  | true => exact h _ _ e
  | false => cases e; exact ⟨_, rfl, F⟩

theorem chk_fr {w : Bool} {x y : Unit → Option V} {v : V} (h : ∀ v, x () = some v → y () = some v) (e : chk w x v = some ()) : chk w y v = some () := by
  cases w with
  | false => exact e
  | true =>
    simp only [chk, if_true] at e ⊢
    cases hx : x () with
    | none => rw [hx] at e; cases e
    | some u => rw [h u hx]; rw [hx] at e; exact e

theorem chks_fr (F : Fr U b0 s b) {ops : List Oper} {an : Nat} : ∀ {rs : List Rd}, chks P ops s an rs = some () → chks P ops b an rs = some ()
  | [], _ => rfl
  | r :: rs, e => by
    simp only [chks] at e ⊢
    split at e
    · rename_i h; rw [if_pos h]; exact chks_fr F e
    · rename_i h
      rw [if_neg h]
      cases ho : ops[r.i]? with
      | none => rw [ho] at e; cases e
      | some o =>
        rw [ho] at e
        simp only [Option.bind_eq_some_iff] at e ⊢
        obtain ⟨u, h1, h2⟩ := e
        exact ⟨u, chk_fr (fun v => evV_fr F) h1, chks_fr F h2⟩

end

section
variable {U : Nat → Prop} {b0 : H} {P : Program} {call call' : CallT} {nt N : Nat} {R : Type} {Q : R → R → Prop}

theorem evOp_fr (hC : CallFr U b0 call call') {ops : List Oper} {o : Oper} {E : Env} {s b : H} {k k' : Env → H → Option R} {r : R} (F : Fr U b0 s b) (hk : ∀ E s b r, Fr U b0 s b → k E s = some r → ∃ r', k' E b = some r' ∧ Q r r')
    (e : evOp P call nt ops o E s k = some r) : ∃ r', evOp P call' nt ops o E b k' = some r' ∧ Q r r' := by
  unfold evOp at e ⊢
  rcases hc : cls o.op with _ | _ | _ | _ | n <;> rw [hc] at e <;> simp only [Option.bind_eq_some_iff] at e ⊢
  · obtain ⟨v, h1, h2⟩ := e
    obtain ⟨r', h3, q⟩ := hk _ _ _ _ F h2
    exact ⟨r', ⟨v, gV_fr (fun v => evV_fr F) h1, h3⟩, q⟩
  · obtain ⟨v, h1, h2⟩ := e
    obtain ⟨r', h3, q⟩ := hk _ _ _ _ F h2
    exact ⟨r', ⟨v, gV_fr (fun v => evV_fr F) h1, h3⟩, q⟩
  · obtain ⟨⟨v, s'⟩, h1, h2⟩ := e
    obtain ⟨b', h3, F'⟩ := gE_fr F (x := fun _ => mkB s (evA P E o)) (y := fun _ => mkB b (evA P E o)) (fun v s' h => mkB_fr F h) h1
    obtain ⟨r', h4, q⟩ := hk _ _ _ _ F' h2
    exact ⟨r', ⟨(v, b'), h3, h4⟩, q⟩
  · obtain ⟨⟨v, s'⟩, h1, h2⟩ := e
    obtain ⟨b', h3, F'⟩ := gE_fr F (x := fun _ => evE P call E s o) (y := fun _ => evE P call' E b o) (fun v s' h => evE_fr hC F h) h1
    obtain ⟨r', h4, q⟩ := hk _ _ _ _ F' h2
    exact ⟨r', ⟨(v, b'), h3, h4⟩, q⟩
  · cases e

theorem evOps_fr (hC : CallFr U b0 call call') {ops : List Oper} {k k' : Env → H → Option R} (hk : ∀ E s b r, Fr U b0 s b → k E s = some r → ∃ r', k' E b = some r' ∧ Q r r') :
    ∀ {os : List Oper} {E : Env} {s b : H} {r : R}, Fr U b0 s b → evOps P call nt ops os E s k = some r → ∃ r', evOps P call' nt ops os E b k' = some r' ∧ Q r r'
  | [], _, _, _, _, F, e => hk _ _ _ _ F e
  | _ :: _, _, _, _, _, F, e => evOp_fr hC F (fun _ _ _ _ F e => evOps_fr hC hk F e) e

theorem evDraw_fr (hC : CallFr U b0 call call') {ops : List Oper} {an : List Nat} {k k' : Env → H → Option R} (hk : ∀ E s b r, Fr U b0 s b → k E s = some r → ∃ r', k' E b = some r' ∧ Q r r') :
    ∀ {is : List Nat} {rs : List Rd} {E : Env} {hs hb s b : H} {r : R}, Fr U b0 hs hb → Fr U b0 s b → evDraw P call nt ops an is rs E hs s k = some r → ∃ r', evDraw P call' nt ops an is rs E hb b k' = some r' ∧ Q r r'
  | [], _, _, _, _, _, _, _, _, F, e => hk _ _ _ _ F e
  | i :: is, rs, E, hs, hb, s, b, r, Fs, F, e => by
    simp only [evDraw] at e ⊢
    cases ho : ops[i]? with
    | none => rw [ho] at e; cases e
    | some o =>
      rw [ho] at e
      simp only at e ⊢
      rcases hc : cls o.op with _ | _ | _ | _ | n <;> rw [hc] at e <;> simp only [Option.bind_eq_some_iff] at e ⊢
      · obtain ⟨v, h1, h2⟩ := e
        obtain ⟨r', h3, q⟩ := evDraw_fr hC hk Fs F h2
        exact ⟨r', ⟨v, gV_fr (fun v => evV_fr Fs) h1, h3⟩, q⟩
      · obtain ⟨v, h1, h2⟩ := e
        obtain ⟨r', h3, q⟩ := evDraw_fr hC hk Fs F h2
        exact ⟨r', ⟨v, gV_fr (fun v => evV_fr Fs) h1, h3⟩, q⟩
      · obtain ⟨⟨v, s'⟩, h1, h2⟩ := e
        obtain ⟨b', h3, F'⟩ := gE_fr F (x := fun _ => mkB s (evA P E o)) (y := fun _ => mkB b (evA P E o)) (fun v s' h => mkB_fr F h) h1
        obtain ⟨r', h4, q⟩ := evDraw_fr hC hk Fs F' h2
        exact ⟨r', ⟨(v, b'), h3, h4⟩, q⟩
      · obtain ⟨⟨v, s'⟩, h1, u, h5, h2⟩ := e
        obtain ⟨b', h3, F'⟩ := gE_fr F (x := fun _ => evE P call E s o) (y := fun _ => evE P call' E b o) (fun v s' h => evE_fr hC F h) h1
        obtain ⟨r', h4, q⟩ := evDraw_fr hC hk F' F' h2
        exact ⟨r', ⟨(v, b'), h3, u, chks_fr F' h5, h4⟩, q⟩
      · cases e

abbrev KFr (U : Nat → Prop) (b0 : H) (Q : R → R → Prop) (k k' : K R) : Prop := ∀ ex E s b r, Fr U b0 s b → k ex E s = some r → ∃ r', k' ex E b = some r' ∧ Q r r'

theorem iter_fr {body body' : Env → H → K R → Option R} (hb : ∀ (E : Env) (s b : H) (k k' : K R) (r : R), KFr U b0 Q k k' → Fr U b0 s b → body E s k = some r → ∃ r', body' E b k' = some r' ∧ Q r r') :
    ∀ {n : Nat} {E : Env} {s b : H} {k k' : K R} {r : R}, KFr U b0 Q k k' → Fr U b0 s b → iter body n E s k = some r → ∃ r', iter body' n E b k' = some r' ∧ Q r r'
  | 0, _, _, _, _, _, _, _, _, e => by simp [iter] at e
  | n + 1, E, s, b, k, k', r, hk, F, e => by
    simp only [iter] at e ⊢
    refine hb _ _ _ _ _ _ (fun ex E s b r F e => ?_) F e
    cases ex with
    | norm => exact iter_fr hb hk F e
    | exit i => exact hk _ _ _ _ _ F e
    | goto l => exact hk _ _ _ _ _ F e
    | ret => exact hk _ _ _ _ _ F e

theorem jumps_fr {l : Nat} {body body' : Env → H → K R → Option R} (hb : ∀ (E : Env) (s b : H) (k k' : K R) (r : R), KFr U b0 Q k k' → Fr U b0 s b → body E s k = some r → ∃ r', body' E b k' = some r' ∧ Q r r') :
    ∀ {n : Nat} {E : Env} {s b : H} {k k' : K R} {r : R}, KFr U b0 Q k k' → Fr U b0 s b → jumps l body n E s k = some r → ∃ r', jumps l body' n E b k' = some r' ∧ Q r r'
  | 0, _, _, _, _, _, _, _, _, e => by simp [jumps] at e
  | n + 1, E, s, b, k, k', r, hk, F, e => by
    simp only [jumps] at e ⊢
    refine hb _ _ _ _ _ _ (fun ex E s b r F e => ?_) F e
    cases ex with
    | norm => exact hk _ _ _ _ _ F e
    | exit i => exact hk _ _ _ _ _ F e
    | goto l' =>
      simp only at e ⊢
      split at e
      · rename_i h; rw [if_pos h]; exact jumps_fr hb hk F e
      · cases e
    | ret => exact hk _ _ _ _ _ F e

mutual
theorem evC_fr (hC : CallFr U b0 call call') : ∀ {c : Code} {E : Env} {s b : H} {k k' : K R} {r : R}, KFr U b0 Q k k' → Fr U b0 s b → evC P call nt N c E s k = some r → ∃ r', evC P call' nt N c E b k' = some r' ∧ Q r r'
  | .skip, _, _, _, _, _, _, hk, F, e => by simp only [evC] at e ⊢; exact hk _ _ _ _ _ F e
  | .label _, _, _, _, _, _, _, hk, F, e => by simp only [evC] at e ⊢; exact hk _ _ _ _ _ F e
  | .region _ ops draw, _, _, _, _, _, _, hk, F, e => by
    simp only [evC] at e ⊢
    split at e
    · rename_i h1
      rw [if_pos h1]
      split at e
      · rename_i h2
        rw [if_pos h2]
        split at e
        · rename_i h3
          rw [if_pos h3]
          exact evDraw_fr hC (fun E s b r F e => hk .norm E s b r F e) F F e
        · cases e
      · rename_i h2
        rw [if_neg h2]
        exact evOps_fr hC (fun E s b r F e => hk .norm E s b r F e) F e
    · cases e
  | .seq a b, _, _, _, _, _, _, hk, F, e => by
    simp only [evC] at e ⊢
    refine evC_fr hC (fun ex E s b r F e => ?_) F e
    cases ex with
    | norm => exact evC_fr hC hk F e
    | exit i => exact hk _ _ _ _ _ F e
    | goto l => exact hk _ _ _ _ _ F e
    | ret => exact hk _ _ _ _ _ F e
  | .cond c x y, E, _, _, _, _, _, hk, F, e => by
    simp only [evC] at e ⊢
    split at e
    · rename_i h1
      rw [if_pos h1]
      cases hv : opv E c <;> rw [hv] at e <;> try (cases e; done)
      rename_i t
      cases t with
      | true => exact evC_fr hC hk F e
      | false => exact evC_fr hC hk F e
    · cases e
  | .block id c, _, _, _, _, _, _, hk, F, e => by
    simp only [evC] at e ⊢
    refine evC_fr hC (fun ex E s b r F e => ?_) F e
    cases ex with
    | norm => exact hk _ _ _ _ _ F e
    | exit i =>
      simp only at e ⊢
      split at e
      · rename_i h; rw [if_pos h]; exact hk _ _ _ _ _ F e
      · rename_i h; rw [if_neg h]; exact hk _ _ _ _ _ F e
    | goto l => exact hk _ _ _ _ _ F e
    | ret => exact hk _ _ _ _ _ F e
  | .loop c, _, _, _, _, _, _, hk, F, e => by
    simp only [evC] at e ⊢
    exact iter_fr (body := fun E h k => evC P call nt N c E h k) (body' := fun E h k => evC P call' nt N c E h k) (fun _ _ _ _ _ _ hk F e => evC_fr hC hk F e) hk F e
  | .exit id, _, _, _, _, _, _, hk, F, e => by simp only [evC] at e ⊢; exact hk _ _ _ _ _ F e
  | .goto l, _, _, _, _, _, _, hk, F, e => by simp only [evC] at e ⊢; exact hk _ _ _ _ _ F e
  | .ret, _, _, _, _, _, _, hk, F, e => by simp only [evC] at e ⊢; exact hk _ _ _ _ _ F e
  | .rangeFunc .., _, _, _, _, _, _, _, _, e => by simp [evC] at e
  | .scope c, _, _, _, _, _, _, hk, F, e => by
    simp only [evC] at e ⊢
    refine evC_fr hC (fun ex E s b r F e => ?_) F e
    cases ex with
    | norm => exact hk _ _ _ _ _ F e
    | exit i => exact hk _ _ _ _ _ F e
    | goto l =>
      simp only at e ⊢
      split at e
      · rename_i h; rw [if_pos h]; exact jumps_fr (body := fun E h k => evL P call nt N l c E h k) (body' := fun E h k => evL P call' nt N l c E h k) (fun _ _ _ _ _ _ hk F e => evL_fr hC hk F e) hk F e
      · cases e
    | ret => exact hk _ _ _ _ _ F e
  | .refuse _, _, _, _, _, _, _, _, _, e => by simp [evC] at e
theorem evL_fr (hC : CallFr U b0 call call') {l : Nat} : ∀ {c : Code} {E : Env} {s b : H} {k k' : K R} {r : R}, KFr U b0 Q k k' → Fr U b0 s b → evL P call nt N l c E s k = some r → ∃ r', evL P call' nt N l c E b k' = some r' ∧ Q r r'
  | .seq a b, _, _, _, _, _, _, hk, F, e => by
    simp only [evL] at e ⊢
    split at e
    · rename_i h
      rw [if_pos h]
      refine evL_fr hC (fun ex E s b r F e => ?_) F e
      cases ex with
      | norm => exact evC_fr hC hk F e
      | exit i => exact hk _ _ _ _ _ F e
      | goto l => exact hk _ _ _ _ _ F e
      | ret => exact hk _ _ _ _ _ F e
    · rename_i h
      rw [if_neg h]
      exact evL_fr hC hk F e
  | .label _, _, _, _, _, _, _, hk, F, e => by
    simp only [evL] at e ⊢
    split at e
    · rename_i h; rw [if_pos h]; exact hk _ _ _ _ _ F e
    · cases e
  | .skip, _, _, _, _, _, _, _, _, e | .region .., _, _, _, _, _, _, _, _, e | .cond .., _, _, _, _, _, _, _, _, e | .block .., _, _, _, _, _, _, _, _, e | .loop _, _, _, _, _, _, _, _, _, e | .exit _, _, _, _, _, _, _, _, _, e
  | .goto _, _, _, _, _, _, _, _, _, e | .ret, _, _, _, _, _, _, _, _, e | .scope _, _, _, _, _, _, _, _, _, e | .rangeFunc .., _, _, _, _, _, _, _, _, e | .refuse _, _, _, _, _, _, _, _, _, e => by simp [evL] at e
end

theorem evR_fr {E : Env} {s b : H} (F : Fr U b0 s b) : ∀ {rs : List ResultVar} {vs : List V}, evR P E s rs = some vs → evR P E b rs = some vs
  | [], vs, e => e
  | .tmp t :: rs, vs, e => by
    simp only [evR, Option.map_eq_some_iff] at e ⊢
    obtain ⟨us, h, rfl⟩ := e
    exact ⟨us, evR_fr F h, rfl⟩
  | .cell a t :: rs, vs, e => by
    simp only [evR] at e ⊢
    cases hk : kind P t with
    | none => rw [hk] at e; cases e
    | some k =>
      rw [hk] at e
      simp only [Option.bind_eq_some_iff, Option.map_eq_some_iff] at e ⊢
      obtain ⟨v, h1, us, h2, rfl⟩ := e
      exact ⟨v, ld_fr F h1, us, evR_fr F h2, rfl⟩

theorem evB_fr (hC : CallFr U b0 call call') {fn : Func} {args : List V} {s b : H} {v : V} {s' : H} (F : Fr U b0 s b) (e : evB P call N fn args s = some (v, s')) : ∃ b', evB P call' N fn args b = some (v, b') ∧ Fr U b0 s' b' := by
  unfold evB at e ⊢
  cases hb : fn.body with
  | none => rw [hb] at e; cases e
  | some c =>
    rw [hb] at e
    simp only at e ⊢
    split at e
    · rename_i hc
      rw [if_pos hc]
      obtain ⟨⟨v', b'⟩, h1, h2⟩ := evC_fr (Q := fun r r' => r.1 = r'.1 ∧ Fr U b0 r.2 r'.2) (k' := fun ex E h =>
        match ex with
        | .norm | .ret => (evR P E h fn.results.toList).map fun vs => (retV vs, h)
        | _ => none) hC (fun ex E s b r F e => by
        cases ex <;> simp only at e ⊢ <;> first | (cases e; done) | skip
        all_goals
          simp only [Option.map_eq_some_iff] at e
          obtain ⟨vs, h1, rfl⟩ := e
          refine ⟨(retV vs, b), ?_, rfl, F⟩
          rw [evR_fr F h1]
          rfl) F e
      simp only at h2
      obtain ⟨rfl, F'⟩ := h2
      exact ⟨b', h1, F'⟩
    · cases e

theorem evF_fr {N : Nat} : ∀ d, CallFr U b0 (evF P N d) (evF P N d)
  | 0 => fun f args s b v s' F e => by simp [evF] at e
  | d + 1 => fun f args s b v s' F e => by
    simp only [evF] at e ⊢
    cases hf : P.funcs[f]? with
    | none => rw [hf] at e; cases e
    | some fn => rw [hf] at e; exact evB_fr (evF_fr d) F e

end
end Go.Proofs.YtnnebakkcdclmaaGreat.AM
