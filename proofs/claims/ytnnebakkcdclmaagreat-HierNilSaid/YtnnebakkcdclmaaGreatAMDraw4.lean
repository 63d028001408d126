/-
  Proved here, for every program: a part of the soundness of an abstract machine against the model: lemmas. Conditions: none.
-/
import Derived.Test.YtnnebakkcdclmaaGreatAMDraw3
namespace Go.Proofs.YtnnebakkcdclmaaGreat.AM

/-- Memory and what was kept, while blocks are laid ahead. -/
structure Inv (P : Program) (φ0 : Phi) (h0 : H) (w0 : World) (M : Nat) (φ : Phi) (B : Nat → Blk → Prop) (w : World) : Prop where
  ok : ∀ b x, B b x → ∃ l, φ b = some l ∧ BOk P φ x l w
  inj : ∀ b c x y l m, B b x → B c y → φ b = some l → φ c = some m → l.cb = m.cb → b = c ∨ (x.ro = true ∧ y.ro = true)
  ext : φ0.le φ
  out : ∀ b, (b < h0.next ∨ M ≤ b) → φ b = φ0 b
  size : w0.heap.size ≤ w.heap.size
  same : ∀ cb, cb < w0.heap.size → (∀ b x l, h0.get b = some x → x.ro = false → φ0 b = some l → l.cb ≠ cb) → w.heap[cb]? = w0.heap[cb]?
  fz : ∀ a, w.frozen? a = w0.frozen? a
  os : w.os = w0.os
  outp : w.output = w0.output
  news : ∀ b x l, B b x → x.ro = false → φ b = some l → w0.heap.size ≤ l.cb ∨ ∃ b0 x0 l0, h0.get b0 = some x0 ∧ x0.ro = false ∧ φ0 b0 = some l0 ∧ l0.cb = l.cb
  ros : ∀ b x, B b x → x.ro = true → h0.get b = some x

section
variable {P : Program} {φ0 : Phi} {h0 : H} {w0 : World} {M : Nat} {φ : Phi} {B : Nat → Blk → Prop} {w : World}

theorem Inv.start {φ : Phi} {h : H} {w w' : World} (R : Rel P φ h w) (hw : w' = { w with drawn := w.drawn + 1 }) : Inv P φ h w M φ (fun b x => h.get b = some x) w' := by
  subst hw
  refine ⟨?_, R.inj, Phi.le_refl φ, fun _ _ => rfl, Nat.le_refl _, fun _ _ _ => rfl, fun _ => rfl, rfl, rfl, fun b x l h1 h2 h3 => .inr ⟨b, x, l, h1, h2, h3, rfl⟩, fun _ _ h _ => h⟩
  intro b x hx
  obtain ⟨l, hl, hB⟩ := R.ok b x hx
  exact ⟨l, hl, hB.mono (Phi.le_refl φ) rfl⟩

theorem Inv.sub (I : Inv P φ0 h0 w0 M φ B w) {B' : Nat → Blk → Prop} (hs : ∀ b x, B' b x → B b x) : Inv P φ0 h0 w0 M φ B' w :=
  ⟨fun b x h => I.ok b x (hs _ _ h), fun b c x y l m hx hy => I.inj b c x y l m (hs _ _ hx) (hs _ _ hy), I.ext, I.out, I.size, I.same, I.fz, I.os, I.outp, fun b x l h => I.news b x l (hs _ _ h), fun b x h => I.ros b x (hs _ _ h)⟩

theorem Inv.rel (I : Inv P φ0 h0 w0 M φ B w) {h : H} (hs : ∀ b x, h.get b = some x → B b x) (hl : ∀ b x, h.get b = some x → b < h.next) : Rel P φ h w :=
  ⟨hl, fun b x hx => I.ok b x (hs _ _ hx), fun b c x y l m hx hy => I.inj b c x y l m (hs _ _ hx) (hs _ _ hy)⟩

theorem Inv.keep {h : H} (I : Inv P φ0 h0 w0 h.next φ B w) (hs : ∀ b x, h.get b = some x → B b x) (hn : h0.next ≤ h.next) : Keep φ0 h0 w0 φ h w :=
  ⟨I.ext, I.out, hn, I.size, I.same, I.fz, I.os, I.outp, fun b x l hx => I.news b x l (hs _ _ hx), fun b x hx => I.ros b x (hs _ _ hx)⟩

theorem objOk_ro {blk : Blk} {o : Obj} {top : Nat} (ho : ObjOk P φ blk o top) : blk.ro = false := by
  cases blk with
  | c k v => obtain ⟨rfl, _⟩ := ho; rfl
  | m es => rfl

theorem frozen?_alloc (w : World) {o : Obj} (ho : ∃ blk top, ObjOk P φ blk o top) (a : Addr) : (w.alloc o).frozen? a = w.frozen? a := by
  have hw : (w.alloc o).heap = w.heap.push o := rfl
  unfold World.frozen?
  by_cases e : a.block = w.heap.size
  · have hn : w.heap[a.block]? = none := by rw [e]; simp
    have hm : (w.alloc o).heap[a.block]? = some o := by rw [hw, e]; simp
    rw [hn, hm]
    obtain ⟨blk, top, ho⟩ := ho
    cases blk with
    | c k v =>
      obtain ⟨_, c, e, cs, rfl, _⟩ := ho
      simp
    | m es => obtain ⟨_, rfl, _⟩ := ho; rfl
  · have : (w.alloc o).heap[a.block]? = w.heap[a.block]? := by
      rw [hw, Array.getElem?_push, if_neg e]
    rw [this]

theorem Inv.alloc (I : Inv P φ0 h0 w0 M φ B w) {id : Nat} (hf : φ id = none) (h1 : h0.next ≤ id) (h2 : id < M) {blk : Blk} {ob : Obj} {top : Nat} (ho : ObjOk P φ blk ob top) :
    Inv P φ0 h0 w0 M (φ.add id ⟨w.heap.size, 0, top⟩) (fun b x => B b x ∨ (b = id ∧ x = blk)) (w.alloc ob) := by
  have hle : φ.le (φ.add id ⟨w.heap.size, 0, top⟩) := by
    intro b l hb
    rw [Phi.add_ne]; exact hb
    rintro rfl; rw [hf] at hb; cases hb
  have old : ∀ b x m, B b x → (φ.add id ⟨w.heap.size, 0, top⟩) b = some m → φ b = some m ∧ m.cb < w.heap.size := by
    intro b x m hx hm
    obtain ⟨l, hl, hB⟩ := I.ok b x hx
    rw [hle _ _ hl] at hm; cases hm
    exact ⟨hl, hB.lt⟩
  have hro := objOk_ro ho
  have hget : (w.alloc ob).heap[w.heap.size]? = some ob := by
    have hw : (w.alloc ob).heap = w.heap.push ob := rfl
    rw [hw]; simp
  refine ⟨?_, ?_, Phi.le_trans I.ext hle, ?_, ?_, ?_, ?_, I.os, I.outp, ?_, ?_⟩
  · rintro b x (hx | ⟨rfl, rfl⟩)
    · obtain ⟨l, hl, hB⟩ := I.ok b x hx
      exact ⟨l, hle _ _ hl, hB.mono hle (alloc_other w ob hB.lt)⟩
    · refine ⟨_, Phi.add_self _ _ _, ?_⟩
      cases x with
      | c k v =>
        obtain ⟨rfl, c, e, cs, rfl, h2, h3, h4⟩ := ho
        exact ⟨c, e, (0, 0), cs, hget, h2, fun _ => rfl, relC_mono hle h3, fun i x hx => by simpa using h4 i x hx⟩
      | m es =>
        obtain ⟨rfl, rfl, _⟩ := ho
        exact ⟨#[], 0, hget, by simp [relM]⟩
  · rintro b c x y l m (hx | ⟨rfl, rfl⟩) (hy | ⟨rfl, rfl⟩) hl hm e
    · exact I.inj b c x y l m hx hy (old _ _ _ hx hl).1 (old _ _ _ hy hm).1 e
    · rw [Phi.add_self] at hm; cases hm
      have := (old _ _ _ hx hl).2
      simp at e; omega
    · rw [Phi.add_self] at hl; cases hl
      have := (old _ _ _ hy hm).2
      simp at e; omega
    · exact .inl rfl
  · intro b hb
    rw [Phi.add_ne, I.out b hb]
    omega
  · have : (w.alloc ob).heap = w.heap.push ob := rfl
    have := I.size
    simp_all; omega
  · intro cb hcb hn
    rw [alloc_other w ob (Nat.lt_of_lt_of_le hcb I.size)]
    exact I.same cb hcb hn
  · intro a
    rw [frozen?_alloc w ⟨blk, top, ho⟩ a]; exact I.fz a
  · rintro b x l (hx | ⟨rfl, rfl⟩) hr hl
    · exact I.news b x l hx hr (old _ _ _ hx hl).1
    · rw [Phi.add_self] at hl; cases hl
      exact .inl I.size
  · rintro b x (hx | ⟨rfl, rfl⟩) hr
    · exact I.ros b x hx hr
    · rw [hro] at hr; cases hr

theorem Inv.effect (I : Inv P φ0 h0 w0 M φ B w) {h h' : H} {φ' : Phi} {w' : World} (hs : ∀ b x, h.get b = some x → B b x) (hl : ∀ b x, h.get b = some x → b < h.next) (R' : Rel P φ' h' w') (K : Keep φ h w φ' h' w') (h1 : h0.next ≤ h.next) (h2 : h'.next ≤ M)
    {Bp : Nat → Blk → Prop} (hp : ∀ b x, Bp b x → B b x ∧ h'.next ≤ b) : Inv P φ0 h0 w0 M φ' (fun b x => h'.get b = some x ∨ Bp b x) w' := by
  have fwd : ∀ b x m, B b x → φ' b = some m → φ b = some m := by
    intro b x m hx hm
    obtain ⟨l, hl, hB⟩ := I.ok b x hx
    rw [K.ext _ _ hl] at hm; cases hm
    exact hl
  have hnx := K.nx
  have keepB : ∀ b x l, Bp b x → φ b = some l → BOk P φ x l w → w'.heap[l.cb]? = w.heap[l.cb]? := by
    intro b x l hb hlb hB
    obtain ⟨k1, k2⟩ := hp b x hb
    refine K.same _ hB.lt fun b' x' l' g1 g2 g3 e => ?_
    rcases I.inj b' b x' x l' l (hs _ _ g1) k1 g3 hlb e with e | ⟨e, _⟩
    · have := hl _ _ g1; omega
    · rw [g2] at e; cases e
  have mixed : ∀ b' b x' x l' l, h'.get b' = some x' → Bp b x → φ' b' = some l' → φ' b = some l → l'.cb = l.cb → x'.ro = true ∧ x.ro = true := by
    intro b' b x' x l' l g1 g2 g3 g4 e
    obtain ⟨k1, k2⟩ := hp b x g2
    have hb := fwd _ _ _ k1 g4
    have hlt : l.cb < w.heap.size := by
      obtain ⟨l2, hl2, hB⟩ := I.ok b x k1
      rw [hb] at hl2; cases hl2; exact hB.lt
    cases hr : x'.ro with
    | false =>
      rcases K.news b' x' l' g1 hr g3 with hge | ⟨b0, x0, l0, m1, m2, m3, m4⟩
      · omega
      · rcases I.inj b0 b x0 x l0 l (hs _ _ m1) k1 m3 hb (m4.trans e) with e | ⟨e, _⟩
        · have := hl _ _ m1; omega
        · rw [m2] at e; cases e
    | true =>
      have g1' := K.ros b' x' g1 hr
      have g3' := fwd _ _ _ (hs _ _ g1') g3
      rcases I.inj b' b x' x l' l (hs _ _ g1') k1 g3' hb e with e | ⟨_, e⟩
      · have := hl _ _ g1'; omega
      · exact ⟨rfl, e⟩
  refine ⟨?_, ?_, Phi.le_trans I.ext K.ext, ?_, Nat.le_trans I.size K.size, ?_, fun a => (K.fz a).trans (I.fz a), K.os.trans I.os, K.outp.trans I.outp, ?_, ?_⟩
  · rintro b x (hx | hx)
    · exact R'.ok b x hx
    · obtain ⟨l, hl, hB⟩ := I.ok b x (hp _ _ hx).1
      exact ⟨l, K.ext _ _ hl, hB.mono K.ext (keepB b x l hx hl hB)⟩
  · rintro b c x y l m (hx | hx) (hy | hy) hlb hm e
    · exact R'.inj b c x y l m hx hy hlb hm e
    · exact .inr (mixed _ _ _ _ _ _ hx hy hlb hm e)
    · exact .inr (mixed _ _ _ _ _ _ hy hx hm hlb e.symm).symm
    · exact I.inj b c x y l m (hp _ _ hx).1 (hp _ _ hy).1 (fwd _ _ _ (hp _ _ hx).1 hlb) (fwd _ _ _ (hp _ _ hy).1 hm) e
  · intro b hb
    rw [K.out b (by omega), I.out b hb]
  · intro cb hcb hn
    rw [K.same cb (Nat.lt_of_lt_of_le hcb I.size) ?_, I.same cb hcb hn]
    intro b x l hx hr hlb e
    rcases I.news b x l (hs _ _ hx) hr hlb with hge | ⟨b0, x0, l0, k1, k2, k3, k4⟩
    · omega
    · exact hn b0 x0 l0 k1 k2 k3 (k4.trans e)
  · rintro b x l (hx | hx) hr hlb
    · rcases K.news b x l hx hr hlb with hge | ⟨b0, x0, l0, k1, k2, k3, k4⟩
      · exact .inl (Nat.le_trans I.size hge)
      · rcases I.news b0 x0 l0 (hs _ _ k1) k2 k3 with hge | ⟨b1, x1, l1, m1, m2, m3, m4⟩
        · exact .inl (k4 ▸ hge)
        · exact .inr ⟨b1, x1, l1, m1, m2, m3, m4.trans k4⟩
    · exact I.news b x l (hp _ _ hx).1 hr (fwd _ _ _ (hp _ _ hx).1 hlb)
  · rintro b x (hx | hx) hr
    · exact I.ros b x (hs _ _ (K.ros b x hx hr)) hr
    · exact I.ros b x (hp _ _ hx).1 hr

end
end Go.Proofs.YtnnebakkcdclmaaGreat.AM
