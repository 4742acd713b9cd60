/- A law's last step: where the call returns true and of what was there nothing has turned, each argument reads as it did. And a list of calls, out of what is handed in. -/
import Derived.Test.YtmkckichkmgemaaFl2
import Derived.ProofKit
import Derived.ChangeSame
import Derived.Deep.SlicePairs
namespace Go.Proofs.Ytmkckichkmgemaa
open Go.RowKit Go.WideShapes Go.ChangeShapes Go.ChangeAt

theorem laidOut : laidOutB Try.prog = true := by kernel_rfl
theorem own : ownKnob Try.prog.godebug = none := by kernel_rfl

section
variable {H : Type} {enc : TypeId × Value → H}
theorem trodAll_below {P : Program} (hl : laidOutB P = true) {W W' : World} (hb : Below W.heap.size W W') : ∀ {ts : List TypeId} {vs : List Value} {ds : List (DataW H)} {ps : List MemPlace},
    ts.all (fun t => P.readableRec t && decide (t < P.types.size)) = true → DataW.TrodAll enc P W 0 (fun _ => true) true ts vs ds ps → (∀ x ∈ ps, x.block < W.heap.size) → DataW.TrodAll enc P W' 0 (fun b => decide (b < W.heap.size)) true ts vs ds ps
  | [], [], [], _, _, h, _ => h
  | t :: ts, v :: vs, d :: ds, _, hr, ⟨p, q, h1, h2, e⟩, hlt => by
    rw [List.all_cons, Bool.and_eq_true, Bool.and_eq_true] at hr
    refine ⟨p, q, Below.trod hl hr.1.1 (of_decide_eq_true hr.1.2) h1 hb (fun x hx => hlt x (by rw [e]; exact List.mem_append_left _ hx)), trodAll_below hl hb hr.2 h2 (fun x hx => hlt x (by rw [e]; exact List.mem_append_right _ hx)), e⟩

theorem law_post {f : Func} {s : ChangeSpec} {W W' : World} {args : Array Value} {ds : List (DataW H)} {before : List MemPlace}
    (hW : DataW.Whole enc Try.prog f.params.toList s.vars false W args.toList ds [] before) (hv : s.vars = [])
    (hr : f.params.toList.all (fun t => Try.prog.readableRec t && decide (t < Try.prog.types.size)) = true) (ht : f.resultTypes = #[4])
    (hfn : s.fn H ds = { results := [.lit (.bool true)], args := ds }) (hb : Below W.heap.size W W') :
    s.post enc Try.prog f false true false false W args (.bool true) W' := by
  have hW' := hW
  obtain ⟨p, q, hA, hV, rfl, hfz, hnd⟩ := hW
  rw [hv] at hV
  obtain ⟨_, rfl⟩ := trodVars_none hV
  have hlt : ∀ x ∈ p, x.block < W.heap.size := fun x hx => by simpa using hW'.lt x (List.mem_append_left _ hx)
  refine ⟨ds, [], _, [], p, [], hW', ?_, ?_, ?_, hb.frame _, fun h => by cases h⟩
  · rw [List.append_nil, hfn, ht]; exact trodAll_mk1 (shut_bool Try.underlying4 _)
  · rw [List.append_nil, hfn]; exact trodAll_below laidOut hb hr hA hlt
  · rw [List.append_nil, hfn, hv]; rfl
end

namespace Fl
section
variable {H : Type} {enc : TypeId × Value → H}
theorem addr_of {w : World} {a : Addr} {u : Value} (h : w.cell? a = some u) : ∃ g off, a = ⟨g, off, none⟩ := by
  obtain ⟨g, off, sp⟩ := a
  cases sp with
  | none => exact ⟨g, off, rfl⟩
  | some s =>
    exfalso
    simp only [World.cell?] at h
    split at h <;> simp at h

theorem acts_open {W : World} {base : Nat} {v : Value} {d : DataW H} {p : List MemPlace} (hv : Value.okWide Try.prog W .any base 22 v) (h : DataW.Trod enc Try.prog W 0 (fun _ => true) true 22 v d p) :
    ∃ acts, Acts W v acts := by
  obtain ⟨a, len, cap, rfl⟩ := okWide_slice Try.underlying22 hv
  obtain ⟨fuel, hf⟩ := h
  rcases Go.Deep.open_slice_pairs Try.underlying22 Try.underlying32 (by kernel_rfl) rfl rfl (by kernel_rfl) (by kernel_rfl) hf with ⟨hcs, _⟩ | ⟨a', len', cap', m, n, V0, V1, D0, D1, P0, P1, hcs, _, hl, hm, hmm, _, hx⟩
  · simp [Value.cells] at hcs
    obtain ⟨rfl, rfl, rfl⟩ := hcs
    exact ⟨[], none, 0, rfl, fun j hj => by simp at hj⟩
  · simp [Value.cells] at hcs
    obtain ⟨rfl, rfl, rfl⟩ := hcs
    have hlm : len ≤ m := by rw [hmm]; split <;> omega
    have each : ∀ i, i < len → ∃ g off, a' = ⟨g, off, none⟩ ∧ ∃ x y : Int, W.cell? ⟨g, off + i * 2, none⟩ = some (.int .i64 x) ∧ W.cell? ⟨g, off + i * 2 + 1, none⟩ = some (.int .i64 y) := by
      intro i hi
      obtain ⟨g, off, ho⟩ : ∃ g off, a' = ⟨g, off, none⟩ := by
        have := (hx 0 (by omega)).1
        rw [Nat.zero_mul, show a'.add 0 = a' by simp [Addr.add]] at this
        exact addr_of this
      subst ho
      obtain ⟨h0, h1, t0, t1⟩ := hx i (by omega)
      obtain ⟨x, e0, _⟩ := DataW.trod_int Try.underlying3 t0
      obtain ⟨y, e1, _⟩ := DataW.trod_int Try.underlying3 t1
      simp at e0 e1
      rw [e0] at h0
      rw [e1] at h1
      have ea : ∀ j, (⟨g, off, none⟩ : Addr).add j = ⟨g, off + j, none⟩ := by intro j; unfold Addr.add; split <;> simp_all
      rw [ea] at h0 h1
      exact ⟨g, off, rfl, x, y, h0, h1⟩
    have hc : ∀ i, ∃ q : Int × Int, i < len → ∃ g off, a' = ⟨g, off, none⟩ ∧ W.cell? ⟨g, off + i * 2, none⟩ = some (.int .i64 q.1) ∧ W.cell? ⟨g, off + i * 2 + 1, none⟩ = some (.int .i64 q.2) := by
      intro i
      by_cases hi : i < len
      · obtain ⟨g, off, e, x, y, h0, h1⟩ := each i hi
        exact ⟨(x, y), fun _ => ⟨g, off, e, h0, h1⟩⟩
      · exact ⟨(0, 0), fun h => absurd h hi⟩
    obtain ⟨f, hfc⟩ := Classical.axiomOfChoice hc
    refine ⟨(List.range len).map f, some a', cap, by simp, fun j hj => ?_⟩
    simp at hj
    obtain ⟨g, off, e, h0, h1⟩ := hfc j hj
    refine ⟨g, off, by rw [e], ?_, ?_⟩
    · simpa [List.getD, hj] using h0
    · simpa [List.getD, hj] using h1
end
end Fl
end Go.Proofs.Ytmkckichkmgemaa
