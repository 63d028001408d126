/-
  Proved here, for every program: a part of the soundness of an abstract machine against the model: lemmas. Conditions: none.
-/
import Derived.Test.YtnnebakkcdclmaaGreatAMRel
namespace Go.Proofs.YtnnebakkcdclmaaGreat.AM

def Blk.ro : Blk → Bool
  | .c .ro _ => true
  | _ => false

def relM (P : Program) (φ : Phi) : List (V × V) → List MapEntry → Prop
  | [], es => es = []
  | (k, v) :: r, es => ∃ e es', es = e :: es' ∧ relV P φ k e.key ∧ relV P φ v e.val ∧ relM P φ r es'

theorem relM_mono {P : Program} {φ ψ : Phi} (h : φ.le ψ) : ∀ {r : List (V × V)} {es : List MapEntry}, relM P φ r es → relM P ψ r es
  | [], _, e => e
  | (k, v) :: r, _, e => by
    simp only [relM] at e ⊢
    obtain ⟨x, es', h1, h2, h3, h4⟩ := e
    exact ⟨x, es', h1, relV_mono h h2, relV_mono h h3, relM_mono h h4⟩

def BOk (P : Program) (φ : Phi) (x : Blk) (l : Loc) (w : World) : Prop :=
  match x with
  | .c k v => ∃ c e fr cs, w.heap[l.cb]? = some (.cells c e fr) ∧ c.size = l.top ∧ (k ≠ .ro → fr = (0, 0)) ∧ relC P φ v cs ∧ ∀ (i : Nat) x, cs[i]? = some x → c[l.base + i]? = some x
  | .m es => ∃ ents ck, w.heap[l.cb]? = some (.map ents ck) ∧ relM P φ es ents.toList

theorem BOk.mono {P : Program} {φ ψ : Phi} (h : φ.le ψ) {x : Blk} {l : Loc} {w w' : World} (hw : w'.heap[l.cb]? = w.heap[l.cb]?) (b : BOk P φ x l w) : BOk P ψ x l w' := by
  cases x with
  | c k v =>
    obtain ⟨c, e, fr, cs, h1, h2, h3, h4, h5⟩ := b
    exact ⟨c, e, fr, cs, hw ▸ h1, h2, h3, relC_mono h h4, h5⟩
  | m es =>
    obtain ⟨ents, ck, h1, h2⟩ := b
    exact ⟨ents, ck, hw ▸ h1, relM_mono h h2⟩

structure Rel (P : Program) (φ : Phi) (h : H) (w : World) : Prop where
  lt : ∀ b x, h.get b = some x → b < h.next
  ok : ∀ b x, h.get b = some x → ∃ l, φ b = some l ∧ BOk P φ x l w
  inj : ∀ b c x y l m, h.get b = some x → h.get c = some y → φ b = some l → φ c = some m → l.cb = m.cb → b = c ∨ (x.ro = true ∧ y.ro = true)

structure Keep (φ : Phi) (h : H) (w : World) (φ' : Phi) (h' : H) (w' : World) : Prop where
  ext : φ.le φ'
  out : ∀ b, (b < h.next ∨ h'.next ≤ b) → φ' b = φ b
  nx : h.next ≤ h'.next
  size : w.heap.size ≤ w'.heap.size
  same : ∀ cb, cb < w.heap.size → (∀ b x l, h.get b = some x → x.ro = false → φ b = some l → l.cb ≠ cb) → w'.heap[cb]? = w.heap[cb]?
  fz : ∀ a, w'.frozen? a = w.frozen? a
  os : w'.os = w.os
  outp : w'.output = w.output
  news : ∀ b x l, h'.get b = some x → x.ro = false → φ' b = some l → w.heap.size ≤ l.cb ∨ ∃ b0 x0 l0, h.get b0 = some x0 ∧ x0.ro = false ∧ φ b0 = some l0 ∧ l0.cb = l.cb
  ros : ∀ b x, h'.get b = some x → x.ro = true → h.get b = some x

theorem BOk.lt {P : Program} {φ : Phi} {x : Blk} {l : Loc} {w : World} (b : BOk P φ x l w) : l.cb < w.heap.size := by
  have go : ∀ o, w.heap[l.cb]? = some o → l.cb < w.heap.size := fun o ho => (Array.getElem?_eq_some_iff.1 ho).1
  cases x with
  | c k v => obtain ⟨c, e, fr, cs, h1, _⟩ := b; exact go _ h1
  | m es => obtain ⟨ents, ck, h1, h2⟩ := b; exact go _ h1

theorem Keep.refl (φ : Phi) (h : H) (w : World) : Keep φ h w φ h w :=
  ⟨Phi.le_refl φ, fun _ _ => rfl, Nat.le_refl _, Nat.le_refl _, fun _ _ _ => rfl, fun _ => rfl, rfl, rfl, fun b x l h1 h2 h3 => .inr ⟨b, x, l, h1, h2, h3, rfl⟩, fun _ _ h _ => h⟩

theorem Keep.trans {φ φ1 φ2 : Phi} {h h1 h2 : H} {w w1 w2 : World} (a : Keep φ h w φ1 h1 w1) (b : Keep φ1 h1 w1 φ2 h2 w2) : Keep φ h w φ2 h2 w2 where
  ext := Phi.le_trans a.ext b.ext
  out := fun c hc => by
    have hn := a.nx; have hm := b.nx
    rcases hc with hc | hc
    · rw [b.out c (.inl (by omega)), a.out c (.inl hc)]
    · rw [b.out c (.inr hc), a.out c (.inr (by omega))]
  nx := Nat.le_trans a.nx b.nx
  size := Nat.le_trans a.size b.size
  same := fun cb hcb hn => by
    rw [b.same cb (Nat.lt_of_lt_of_le hcb a.size) ?_, a.same cb hcb hn]
    intro b' x l hx hr hl e
    rcases a.news b' x l hx hr hl with hge | ⟨b0, x0, l0, k1, k2, k3, k4⟩
    · omega
    · exact hn b0 x0 l0 k1 k2 k3 (k4.trans e)
  fz := fun x => (b.fz x).trans (a.fz x)
  os := b.os.trans a.os
  outp := b.outp.trans a.outp
  news := fun b' x l hx hr hl => by
    rcases b.news b' x l hx hr hl with hge | ⟨b0, x0, l0, k1, k2, k3, k4⟩
    · exact .inl (Nat.le_trans a.size hge)
    · rcases a.news b0 x0 l0 k1 k2 k3 with hge | ⟨b1, x1, l1, m1, m2, m3, m4⟩
      · exact .inl (k4 ▸ hge)
      · exact .inr ⟨b1, x1, l1, m1, m2, m3, m4.trans k4⟩
  ros := fun c x hx hr => a.ros c x (b.ros c x hx hr) hr

def Fresh (φ : Phi) (n n' : Nat) : Prop := ∀ b, n ≤ b → b < n' → φ b = none

theorem Fresh.left {φ : Phi} {n m k : Nat} (h : Fresh φ n k) (hm : m ≤ k) : Fresh φ n m := fun b h1 h2 => h b h1 (by omega)
theorem Fresh.right {φ φ1 : Phi} {h h1 : H} {w w1 : World} {k : Nat} (hf : Fresh φ h.next k) (a : Keep φ h w φ1 h1 w1) : Fresh φ1 h1.next k := fun b h1' h2 => by
  have := a.nx
  rw [a.out b (.inr h1')]; exact hf b (by omega) h2

section
variable {P : Program} {φ : Phi} {h : H} {w : World}

theorem frozen?_setRow (w : World) (g : Nat) (c c' : Array Value) (e : TypeId) (fr : Nat × Nat) (hg : w.heap[g]? = some (.cells c e fr)) (a : Addr) : (w.setRow g c').frozen? a = w.frozen? a := by
  unfold World.frozen?
  by_cases ha : a.block = g
  · rw [ha, setRow_heap w g c c' e fr hg, hg]
  · rw [setRow_other w g a.block c' ha]

/-- A block's content turns. -/
theorem Rel.put_c (R : Rel P φ h w) {b : Nat} {bk : BK} {v : V} (hb : h.get b = some (.c bk v)) (hro : bk ≠ .ro) {l : Loc} (hl : φ b = some l) {c : Array Value} {e : TypeId}
    (hg : w.heap[l.cb]? = some (.cells c e (0, 0))) {v' : V} {cs' : List Value} (r : relC P φ v' cs') {c' : Array Value} (hsz : c'.size = l.top)
    (hc : ∀ (i : Nat) x, cs'[i]? = some x → c'[l.base + i]? = some x) :
    Rel P φ (h.put b (some (.c bk v'))) (w.setRow l.cb c') ∧ Keep φ h w φ (h.put b (some (.c bk v'))) (w.setRow l.cb c') := by
  have hrob : (Blk.c bk v).ro = false := by cases bk <;> simp_all [Blk.ro]
  have hrob' : (Blk.c bk v').ro = false := by cases bk <;> simp_all [Blk.ro]
  have back : ∀ c' x, (h.put b (some (.c bk v'))).get c' = some x → (c' = b ∧ x = .c bk v') ∨ (c' ≠ b ∧ h.get c' = some x) := by
    intro c' x hx
    rw [H.get_put] at hx
    by_cases e : c' = b
    · rw [if_pos e] at hx; exact .inl ⟨e, by simpa using hx.symm⟩
    · rw [if_neg e] at hx; exact .inr ⟨e, hx⟩
  refine ⟨⟨?_, ?_, ?_⟩, ?_⟩
  · intro d x hx
    rcases back d x hx with ⟨rfl, _⟩ | ⟨_, hx⟩
    · exact R.lt _ _ hb
    · exact R.lt _ _ hx
  · intro d x hx
    rcases back d x hx with ⟨rfl, rfl⟩ | ⟨hne, hx⟩
    · exact ⟨l, hl, c', e, (0, 0), cs', setRow_heap w l.cb c c' e (0, 0) hg, hsz, fun _ => rfl, r, hc⟩
    · obtain ⟨m, hm, hbm⟩ := R.ok d x hx
      refine ⟨m, hm, hbm.mono (Phi.le_refl φ) (setRow_other w l.cb m.cb c' ?_)⟩
      intro e
      rcases R.inj d b x _ m l hx hb hm hl e with h1 | ⟨_, h2⟩
      · exact hne h1
      · rw [hrob] at h2; cases h2
  · intro d d' x y m m' hx hy hm hm' e
    rcases back d x hx with ⟨rfl, rfl⟩ | ⟨hne, kx⟩ <;> rcases back d' y hy with ⟨rfl, rfl⟩ | ⟨hne', ky⟩
    · exact .inl rfl
    · rcases R.inj _ _ _ _ _ _ hb ky hm hm' e with h1 | ⟨h2, _⟩
      · exact .inl h1
      · rw [hrob] at h2; cases h2
    · rcases R.inj _ _ _ _ _ _ kx hb hm hm' e with h1 | ⟨_, h2⟩
      · exact .inl h1
      · rw [hrob] at h2; cases h2
    · exact R.inj _ _ _ _ _ _ kx ky hm hm' e
  · refine ⟨Phi.le_refl φ, fun _ _ => rfl, Nat.le_refl _, by simp, ?_, frozen?_setRow w l.cb c c' e (0, 0) hg, rfl, rfl, ?_, ?_⟩
    · intro cb _ hn
      exact setRow_other w l.cb cb c' fun e => hn b _ l hb hrob hl e.symm
    · intro d x m hx hr hm
      rcases back d x hx with ⟨rfl, rfl⟩ | ⟨_, hx⟩
      · exact .inr ⟨_, _, _, hb, hrob, hm, rfl⟩
      · exact .inr ⟨_, _, _, hx, hr, hm, rfl⟩
    · intro d x hx hr
      rcases back d x hx with ⟨rfl, rfl⟩ | ⟨_, hx⟩
      · rw [hrob'] at hr; cases hr
      · exact hx

def setObjW (w : World) (g : Nat) (o : Obj) : World := { w with heap := w.heap.setIfInBounds g o }

/-- A map turns. -/
theorem Rel.put_m (R : Rel P φ h w) {b : Nat} {es : List (V × V)} (hb : h.get b = some (.m es)) {l : Loc} (hl : φ b = some l) {ents : Array MapEntry} {ck : Nat}
    (hg : w.heap[l.cb]? = some (.map ents ck)) {es' : List (V × V)} {ents' : Array MapEntry} {ck' : Nat} (r : relM P φ es' ents'.toList) :
    Rel P φ (h.put b (some (.m es'))) (setObjW w l.cb (.map ents' ck')) ∧ Keep φ h w φ (h.put b (some (.m es'))) (setObjW w l.cb (.map ents' ck')) := by
  have hlt : l.cb < w.heap.size := (Array.getElem?_eq_some_iff.1 hg).1
  have here : (setObjW w l.cb (.map ents' ck')).heap[l.cb]? = some (.map ents' ck') := by simp [setObjW, hlt]
  have other : ∀ k, k ≠ l.cb → (setObjW w l.cb (.map ents' ck')).heap[k]? = w.heap[k]? := fun k hk => by simp [setObjW, Array.getElem?_setIfInBounds_ne (Ne.symm hk)]
  have back : ∀ c' x, (h.put b (some (.m es'))).get c' = some x → (c' = b ∧ x = .m es') ∨ (c' ≠ b ∧ h.get c' = some x) := by
    intro c' x hx
    rw [H.get_put] at hx
    by_cases e : c' = b
    · rw [if_pos e] at hx; exact .inl ⟨e, by simpa using hx.symm⟩
    · rw [if_neg e] at hx; exact .inr ⟨e, hx⟩
  refine ⟨⟨?_, ?_, ?_⟩, ?_⟩
  · intro d x hx
    rcases back d x hx with ⟨rfl, _⟩ | ⟨_, hx⟩
    · exact R.lt _ _ hb
    · exact R.lt _ _ hx
  · intro d x hx
    rcases back d x hx with ⟨rfl, rfl⟩ | ⟨hne, hx⟩
    · exact ⟨l, hl, ents', ck', here, r⟩
    · obtain ⟨m, hm, hbm⟩ := R.ok d x hx
      refine ⟨m, hm, hbm.mono (Phi.le_refl φ) (other _ ?_)⟩
      intro e
      rcases R.inj d b x _ m l hx hb hm hl e with h1 | ⟨_, h2⟩
      · exact hne h1
      · simp [Blk.ro] at h2
  · intro d d' x y m m' hx hy hm hm' e
    rcases back d x hx with ⟨rfl, rfl⟩ | ⟨hne, kx⟩ <;> rcases back d' y hy with ⟨rfl, rfl⟩ | ⟨hne', ky⟩
    · exact .inl rfl
    · rcases R.inj _ _ _ _ _ _ hb ky hm hm' e with h1 | ⟨h2, _⟩
      · exact .inl h1
      · simp [Blk.ro] at h2
    · rcases R.inj _ _ _ _ _ _ kx hb hm hm' e with h1 | ⟨_, h2⟩
      · exact .inl h1
      · simp [Blk.ro] at h2
    · exact R.inj _ _ _ _ _ _ kx ky hm hm' e
  · refine ⟨Phi.le_refl φ, fun _ _ => rfl, Nat.le_refl _, by simp [setObjW], ?_, ?_, rfl, rfl, ?_, ?_⟩
    · intro cb _ hn
      exact other cb fun e => hn b _ l hb rfl hl e.symm
    · intro a
      unfold World.frozen?
      by_cases ha : a.block = l.cb
      · rw [ha, here, hg]
      · rw [other _ ha]
    · intro d x m hx hr hm
      rcases back d x hx with ⟨rfl, rfl⟩ | ⟨_, hx⟩
      · exact .inr ⟨_, _, _, hb, rfl, hm, rfl⟩
      · exact .inr ⟨_, _, _, hx, hr, hm, rfl⟩
    · intro d x hx hr
      rcases back d x hx with ⟨rfl, rfl⟩ | ⟨_, hx⟩
      · cases hr
      · exact hx

theorem alloc_heap (w : World) (o : Obj) : (w.alloc o).heap = w.heap.push o := rfl
theorem alloc_get (w : World) (o : Obj) : (w.alloc o).heap[w.heap.size]? = some o := by rw [alloc_heap]; simp
theorem alloc_other (w : World) (o : Obj) {k : Nat} (hk : k < w.heap.size) : (w.alloc o).heap[k]? = w.heap[k]? := by rw [alloc_heap]; simp [Array.getElem?_push, Nat.ne_of_lt hk]
theorem alloc_size (w : World) (o : Obj) : (w.alloc o).heap.size = w.heap.size + 1 := by rw [alloc_heap]; simp

def Phi.add (φ : Phi) (b : Nat) (l : Loc) : Phi := fun c => if c = b then some l else φ c
theorem Phi.le_add {φ : Phi} {b : Nat} {l : Loc} (hb : φ b = none) : φ.le (φ.add b l) := fun c m hm => by
  unfold Phi.add
  by_cases e : c = b
  · subst e; rw [hb] at hm; cases hm
  · rw [if_neg e]; exact hm
@[simp] theorem Phi.add_self (φ : Phi) (b : Nat) (l : Loc) : φ.add b l b = some l := by simp [Phi.add]
theorem Phi.add_ne {φ : Phi} {b c : Nat} {l : Loc} (h : c ≠ b) : φ.add b l c = φ c := by simp [Phi.add, h]

/-- A new block. -/
theorem Rel.new (R : Rel P φ h w) (hf : φ h.next = none) {x : Blk} {o : Obj} {top : Nat} (hro : x.ro = false)
    (hx : BOk P (φ.add h.next ⟨w.heap.size, 0, top⟩) x ⟨w.heap.size, 0, top⟩ (w.alloc o)) (hfz : ∀ a : Addr, a.block = w.heap.size → (w.alloc o).frozen? a = false) :
    Rel P (φ.add h.next ⟨w.heap.size, 0, top⟩) (h.new x) (w.alloc o) ∧ Keep φ h w (φ.add h.next ⟨w.heap.size, 0, top⟩) (h.new x) (w.alloc o) := by
  have hle : φ.le (φ.add h.next ⟨w.heap.size, 0, top⟩) := Phi.le_add hf
  have other : ∀ k, k < w.heap.size → (w.alloc o).heap[k]? = w.heap[k]? := fun k hk => alloc_other w o hk
  have back : ∀ c' y, (h.new x).get c' = some y → (c' = h.next ∧ y = x) ∨ (c' ≠ h.next ∧ h.get c' = some y) := by
    intro c' y hy
    rw [H.get_new] at hy
    by_cases e : c' = h.next
    · rw [if_pos e] at hy; exact .inl ⟨e, by simpa using hy.symm⟩
    · rw [if_neg e] at hy; exact .inr ⟨e, hy⟩
  have old : ∀ d y m, h.get d = some y → (φ.add h.next ⟨w.heap.size, 0, top⟩) d = some m → φ d = some m ∧ m.cb < w.heap.size := by
    intro d y m hy hm
    obtain ⟨l, hl, hb⟩ := R.ok d y hy
    have := hle _ _ hl
    rw [this] at hm
    cases hm
    exact ⟨hl, hb.lt⟩
  refine ⟨⟨?_, ?_, ?_⟩, ?_⟩
  · intro d y hy
    rcases back d y hy with ⟨rfl, _⟩ | ⟨_, hy⟩
    · simp
    · have := R.lt _ _ hy; simp; omega
  · intro d y hy
    rcases back d y hy with ⟨rfl, rfl⟩ | ⟨hne, hy⟩
    · exact ⟨_, Phi.add_self _ _ _, hx⟩
    · obtain ⟨m, hm, hbm⟩ := R.ok d y hy
      exact ⟨m, hle _ _ hm, hbm.mono hle (other _ hbm.lt)⟩
  · intro d d' y z m m' hy hz hm hm' e
    rcases back d y hy with ⟨rfl, rfl⟩ | ⟨hne, ky⟩ <;> rcases back d' z hz with ⟨rfl, rfl⟩ | ⟨hne', kz⟩
    · exact .inl rfl
    · have := (old _ _ _ kz hm').2
      rw [Phi.add_self] at hm; cases hm; simp at e; omega
    · have := (old _ _ _ ky hm).2
      rw [Phi.add_self] at hm'; cases hm'; simp at e; omega
    · exact R.inj _ _ _ _ _ _ ky kz (old _ _ _ ky hm).1 (old _ _ _ kz hm').1 e
  · refine ⟨hle, ?_, by simp, by rw [alloc_size]; omega, fun cb hcb _ => other cb hcb, ?_, rfl, rfl, ?_, ?_⟩
    · intro b hb
      refine Phi.add_ne ?_
      rcases hb with hb | hb
      · omega
      · simp at hb; omega
    · intro a
      by_cases ha : a.block < w.heap.size
      · unfold World.frozen?; rw [other _ ha]
      · by_cases hb : a.block = w.heap.size
        · rw [hfz a hb]
          unfold World.frozen?
          rw [hb, Array.getElem?_eq_none (Nat.le_refl _)]
        · unfold World.frozen?
          rw [Array.getElem?_eq_none (by rw [alloc_size]; omega), Array.getElem?_eq_none (by omega)]
    · intro d y m hy hr hm
      rcases back d y hy with ⟨rfl, rfl⟩ | ⟨hne, hy⟩
      · rw [Phi.add_self] at hm; cases hm; exact .inl (Nat.le_refl _)
      · exact .inr ⟨d, y, m, hy, hr, (old _ _ _ hy hm).1, rfl⟩
    · intro d y hy hr
      rcases back d y hy with ⟨rfl, rfl⟩ | ⟨hne, hy⟩
      · rw [hro] at hr; cases hr
      · exact hy

theorem frozen?_alloc_cells (w : World) (c : Array Value) (e : TypeId) (a : Addr) (ha : a.block = w.heap.size) : (w.alloc (.cells c e)).frozen? a = false := by
  unfold World.frozen?
  rw [ha, alloc_get]; try simp
theorem frozen?_alloc_map (w : World) (es : Array MapEntry) (ck : Nat) (a : Addr) (ha : a.block = w.heap.size) : (w.alloc (.map es ck)).frozen? a = false := by
  unfold World.frozen?
  rw [ha, alloc_get]; try simp

/-- A new row of cells. -/
theorem Rel.new_c (R : Rel P φ h w) (hf : φ h.next = none) {bk : BK} (hro : bk ≠ .ro) {v : V} {cs : List Value} (r : relC P φ v cs) (e : TypeId) {c : Array Value} (hc : ∀ (i : Nat) x, cs[i]? = some x → c[i]? = some x) :
    Rel P (φ.add h.next ⟨w.heap.size, 0, c.size⟩) (h.new (.c bk v)) (w.alloc (.cells c e)) ∧ Keep φ h w (φ.add h.next ⟨w.heap.size, 0, c.size⟩) (h.new (.c bk v)) (w.alloc (.cells c e)) := by
  refine R.new hf (by cases bk <;> simp_all [Blk.ro]) ?_ (frozen?_alloc_cells w c e)
  exact ⟨c, e, (0, 0), cs, alloc_get _ _, rfl, fun _ => rfl, relC_mono (Phi.le_add hf) r, fun i x hx => by simpa using hc i x hx⟩

theorem Rel.new_m (R : Rel P φ h w) (hf : φ h.next = none) :
    Rel P (φ.add h.next ⟨w.heap.size, 0, 0⟩) (h.new (.m [])) (w.alloc (.map #[] 0)) ∧ Keep φ h w (φ.add h.next ⟨w.heap.size, 0, 0⟩) (h.new (.m [])) (w.alloc (.map #[] 0)) :=
  R.new hf rfl ⟨#[], 0, alloc_get _ _, by simp [relM]⟩ (frozen?_alloc_map w #[] 0)

/-- A block is no more looked at. -/
theorem Rel.kill (R : Rel P φ h w) (b : Nat) : Rel P φ (h.put b none) w ∧ Keep φ h w φ (h.put b none) w := by
  have back : ∀ c x, (h.put b none).get c = some x → h.get c = some x := by
    intro c x hx
    rw [H.get_put] at hx
    by_cases e : c = b
    · rw [if_pos e] at hx; cases hx
    · rw [if_neg e] at hx; exact hx
  refine ⟨⟨fun c x hx => R.lt c x (back c x hx), fun c x hx => R.ok c x (back c x hx), fun c d x y l m hx hy => R.inj c d x y l m (back c x hx) (back d y hy)⟩, ?_⟩
  exact ⟨Phi.le_refl φ, fun _ _ => rfl, Nat.le_refl _, Nat.le_refl _, fun _ _ _ => rfl, fun _ => rfl, rfl, rfl, fun c x l hx hr hl => .inr ⟨c, x, l, back c x hx, hr, hl, rfl⟩, fun c x hx _ => back c x hx⟩

/-- A block's room gets a new number: the old one is no more looked at. -/
theorem Rel.reuse (R : Rel P φ h w) (hf : φ h.next = none) {b : Nat} {bk : BK} {v : V} (hb : h.get b = some (.c bk v)) (hro : bk ≠ .ro) {l : Loc} (hl : φ b = some l) {c : Array Value} {e : TypeId}
    (hg : w.heap[l.cb]? = some (.cells c e (0, 0))) {v' : V} {cs' : List Value} (r : relC P φ v' cs') {c' : Array Value} (hsz : c'.size = l.top) {off : Nat}
    (hc : ∀ (i : Nat) x, cs'[i]? = some x → c'[off + i]? = some x) :
    Rel P (φ.add h.next ⟨l.cb, off, l.top⟩) ((h.put b none).new (.c .op v')) (w.setRow l.cb c') ∧ Keep φ h w (φ.add h.next ⟨l.cb, off, l.top⟩) ((h.put b none).new (.c .op v')) (w.setRow l.cb c') := by
  have hle : φ.le (φ.add h.next ⟨l.cb, off, l.top⟩) := Phi.le_add hf
  have hrob : (Blk.c bk v).ro = false := by cases bk <;> simp_all [Blk.ro]
  have back : ∀ c y, ((h.put b none).new (.c .op v')).get c = some y → (c = h.next ∧ y = .c .op v') ∨ (c ≠ h.next ∧ c ≠ b ∧ h.get c = some y) := by
    intro d y hy
    rw [H.get_new] at hy
    have hnp : (h.put b none).next = h.next := rfl
    rw [hnp] at hy
    by_cases e : d = h.next
    · rw [if_pos e] at hy; exact .inl ⟨e, by simpa using hy.symm⟩
    · rw [if_neg e, H.get_put] at hy
      by_cases e' : d = b
      · rw [if_pos e'] at hy; cases hy
      · rw [if_neg e'] at hy; exact .inr ⟨e, e', hy⟩
  have old : ∀ d y m, h.get d = some y → (φ.add h.next ⟨l.cb, off, l.top⟩) d = some m → φ d = some m := by
    intro d y m hy hm
    obtain ⟨l', hl', hb'⟩ := R.ok d y hy
    have := hle _ _ hl'
    rw [this] at hm
    cases hm
    exact hl'
  have apart : ∀ d y m, h.get d = some y → d ≠ b → φ d = some m → m.cb ≠ l.cb := by
    intro d y m hy hne hm e
    rcases R.inj _ _ _ _ _ _ hy hb hm hl e with h1 | ⟨_, h2⟩
    · exact hne h1
    · rw [hrob] at h2; cases h2
  refine ⟨⟨?_, ?_, ?_⟩, ?_⟩
  · intro d y hy
    rcases back d y hy with ⟨rfl, _⟩ | ⟨_, _, hy⟩
    · simp
    · have := R.lt _ _ hy; simp; omega
  · intro d y hy
    rcases back d y hy with ⟨rfl, rfl⟩ | ⟨hne, hne', hy⟩
    · exact ⟨_, Phi.add_self _ _ _, c', e, (0, 0), cs', setRow_heap w l.cb c c' e (0, 0) hg, hsz, fun _ => rfl, relC_mono hle r, hc⟩
    · obtain ⟨m, hm, hbm⟩ := R.ok d y hy
      exact ⟨m, hle _ _ hm, hbm.mono hle (setRow_other w l.cb m.cb c' (apart d y m hy hne' hm))⟩
  · intro d d' y z m m' hy hz hm hm' e
    rcases back d y hy with ⟨rfl, rfl⟩ | ⟨hne, hnb, ky⟩ <;> rcases back d' z hz with ⟨rfl, rfl⟩ | ⟨hne', hnb', kz⟩
    · exact .inl rfl
    · rw [Phi.add_self] at hm; cases hm
      exact absurd e.symm (apart _ _ _ kz hnb' (old _ _ _ kz hm'))
    · rw [Phi.add_self] at hm'; cases hm'
      exact absurd e (apart _ _ _ ky hnb (old _ _ _ ky hm))
    · exact R.inj _ _ _ _ _ _ ky kz (old _ _ _ ky hm) (old _ _ _ kz hm') e
  · refine ⟨hle, ?_, by simp, by simp, ?_, frozen?_setRow w l.cb c c' e (0, 0) hg, rfl, rfl, ?_, ?_⟩
    · intro b hb
      refine Phi.add_ne ?_
      rcases hb with hb | hb
      · omega
      · simp at hb; omega
    · intro cb _ hn
      exact setRow_other w l.cb cb c' fun e => hn b _ l hb hrob hl e.symm
    · intro d y m hy hr hm
      rcases back d y hy with ⟨rfl, rfl⟩ | ⟨hne, hnb, hy⟩
      · rw [Phi.add_self] at hm; cases hm; exact .inr ⟨b, _, l, hb, hrob, hl, rfl⟩
      · exact .inr ⟨d, y, m, hy, hr, old _ _ _ hy hm, rfl⟩
    · intro d y hy hr
      rcases back d y hy with ⟨rfl, rfl⟩ | ⟨hne, hnb, hy⟩
      · cases hr
      · exact hy

end
end Go.Proofs.YtnnebakkcdclmaaGreat.AM
