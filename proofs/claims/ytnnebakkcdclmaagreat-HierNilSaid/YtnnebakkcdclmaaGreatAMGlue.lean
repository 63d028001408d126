/-
  Proved here, for every program: a part of the soundness of an abstract machine against the model: lemmas. Conditions: none.
-/
import Derived.Test.YtnnebakkcdclmaaGreatAMFn
import Derived.ProofKit
namespace Go.Proofs.YtnnebakkcdclmaaGreat.AM
open Go.ChangeShapes Go.RowKit

/-- What a run leaves of what was there: all. -/
structure Stays (W W' : World) : Prop where
  size : W.heap.size ≤ W'.heap.size
  same : ∀ cb, cb < W.heap.size → W'.heap[cb]? = W.heap[cb]?
  fz : ∀ a, W'.frozen? a = W.frozen? a
  os : W'.os = W.os
  outp : W'.output = W.output

theorem Keep.stays {φ φ' : Phi} {h h' : H} {w w' : World} (K : Keep φ h w φ' h' w') (hro : ∀ b x, h.get b = some x → x.ro = true) : Stays w w' :=
  ⟨K.size, fun cb hcb => K.same cb hcb fun b x l hx hr => absurd ((hro b x hx).symm.trans hr) (by simp), K.fz, K.os, K.outp⟩

theorem Stays.frame {W W' : World} (S : Stays W W') (may : MemPlace → Prop) : W.keptBut W' may := by
  refine ⟨S.os, S.outp, fun i hi => ?_⟩
  rw [S.same i hi]
  split <;> simp_all

theorem Stays.sameAt {W W' : World} (S : Stays W W') {p : MemPlace} (hp : p.block < W.heap.size) : W.sameAt W' p := by
  cases p with
  | cell b o => exact World.cell?_of_block (w := W) (S.same b hp)
  | map b => exact S.same b hp

theorem trodAll_stays {H : Type} {enc : TypeId × Value → H} {P : Program} (hl : laidOutB P = true) {W W' : World} (S : Stays W W') {sp : Nat → Bool} : ∀ {ts : List TypeId} {vs : List Value} {ds : List (DataW H)} {ps : List MemPlace},
    (ts.all fun t => P.readableRec t && decide (t < P.types.size)) = true → DataW.TrodAll enc P W 0 (fun _ => true) true ts vs ds ps → (∀ p ∈ ps, p.block < W.heap.size) → (∀ p ∈ ps, sp p.block = true) → DataW.TrodAll enc P W' 0 sp true ts vs ds ps
  | [], [], [], _, _, h, _, _ => h
  | t :: ts, v :: vs, d :: ds, ps, hr, h, hlt, hsp => by
    obtain ⟨p, q, h1, h2, rfl⟩ := h
    simp only [List.all_cons, Bool.and_eq_true, decide_eq_true_eq] at hr
    refine ⟨p, q, ?_, trodAll_stays hl S hr.2 h2 (fun x hx => hlt x (List.mem_append.2 (.inr hx))) (fun x hx => hsp x (List.mem_append.2 (.inr hx))), rfl⟩
    exact WideElems.Trod_stays hl hr.1.1 hr.1.2 h1 (fun x hx => S.sameAt (hlt x (List.mem_append.2 (.inl hx)))) (fun x hx => hsp x (List.mem_append.2 (.inl hx)))
  | [], [], _ :: _, _, _, h, _, _ => h.elim
  | [], _ :: _, _, _, _, h, _, _ => h.elim
  | _ :: _, [], _, _, _, h, _, _ => h.elim
  | _ :: _, _ :: _, [], _, _, h, _, _ => h.elim

/-- The law's answer: true; what came in reads as it did. -/
theorem post_true {H : Type} {enc : TypeId × Value → H} {P : Program} {f : Func} {s : ChangeSpec} {apart fresh handsOn again : Bool} {W W' : World} {args : Array Value} {ds gs : List (DataW H)} {before : List MemPlace} {tb : TypeId}
    (hl : laidOutB P = true) (hW : DataW.Whole enc P f.params.toList s.vars apart W args.toList ds gs before) (hv : s.vars = []) (hres : (s.fn H (ds ++ gs)).results = [.lit (.bool true)]) (harg : (s.fn H (ds ++ gs)).args = ds)
    (hvar : (s.fn H (ds ++ gs)).vars = []) (ht : f.resultTypes = #[tb]) (hb : P.underlying tb = some .bool) (hr : (f.params.toList.all fun t => P.readableRec t && decide (t < P.types.size)) = true) (S : Stays W W') :
    s.post enc P f apart fresh handsOn again W args (.bool true) W' := by
  have hlt := hW.lt
  have hW' := hW
  obtain ⟨p, q, hA, hV, rfl, hfz, hnd⟩ := hW
  rw [hv] at hV
  obtain ⟨rfl, rfl⟩ := trodVars_none hV
  refine post_of_same (pa := p) (pv := []) hW' (fun b sp hd => ?_) (fun sp hsp => ?_) (fun sp hsp => ?_) rfl (S.frame _) S.fz ?_
  · rw [hres, ht]
    exact trodAll_mk1 (shut_bool hb true)
  · rw [harg]
    exact trodAll_stays hl S hr hA (fun x hx => hlt x (List.mem_append.2 (.inl hx))) (fun x hx => hsp x (List.mem_append.2 (.inl hx)))
  · rw [hv, hvar]; rfl
  · exact ok_one ht rfl (okWide_bool_mk hb true)

theorem isTrue {r : Option (V × H)} (h : (match r with | some (.B true, _) => true | _ => false) = true) : ∃ h', r = some (.B true, h') := by
  split at h
  · exact ⟨_, rfl⟩
  · cases h

end Go.Proofs.YtnnebakkcdclmaaGreat.AM
