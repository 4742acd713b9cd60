/- A law's last step: where the call returns true and of what was there nothing has turned, each argument reads as it did. And a model, out of what is handed in. -/
import Derived.Test.YtkdjhegkcfmkoaaGreatLt
namespace Go.Proofs.YtkdjhegkcfmkoaaGreat
open Go.RowKit Go.WideShapes Go.ChangeShapes Go.ChangeAt
set_option maxRecDepth 100000

theorem laidOut : laidOutB Tryz.prog = true := by kernel_rfl
theorem own : ownKnob Tryz.prog.godebug = none := by kernel_rfl

section
variable {H : Type} {enc : TypeId × Value → H}
theorem trodAll_below {P : Program} (hl : laidOutB P = true) {W W' : World} (hb : Below W.heap.size W W') : ∀ {ts : List TypeId} {vs : List Value} {ds : List (DataW H)} {ps : List MemPlace},
    ts.all (fun t => P.readableRec t && decide (t < P.types.size)) = true → DataW.TrodAll enc P W 0 (fun _ => true) true ts vs ds ps → (∀ x ∈ ps, x.block < W.heap.size) → DataW.TrodAll enc P W' 0 (fun b => decide (b < W.heap.size)) true ts vs ds ps
  | [], [], [], _, _, h, _ => h
  | t :: ts, v :: vs, d :: ds, _, hr, ⟨p, q, h1, h2, e⟩, hlt => by
    rw [List.all_cons, Bool.and_eq_true, Bool.and_eq_true] at hr
    refine ⟨p, q, Below.trod hl hr.1.1 (of_decide_eq_true hr.1.2) h1 hb (fun x hx => hlt x (by rw [e]; exact List.mem_append_left _ hx)), trodAll_below hl hb hr.2 h2 (fun x hx => hlt x (by rw [e]; exact List.mem_append_right _ hx)), e⟩

theorem law_post {f : Func} {s : ChangeSpec} {W W' : World} {args : Array Value} {ds : List (DataW H)} {before : List MemPlace}
    (hW : DataW.Whole enc Tryz.prog f.params.toList s.vars false W args.toList ds [] before) (hv : s.vars = [])
    (hr : f.params.toList.all (fun t => Tryz.prog.readableRec t && decide (t < Tryz.prog.types.size)) = true) (ht : f.resultTypes = #[4])
    (hfn : s.fn H ds = { results := [.lit (.bool true)], args := ds }) (hb : Below W.heap.size W W') :
    s.post enc Tryz.prog f false true false false W args (.bool true) W' := by
  have hW' := hW
  obtain ⟨p, q, hA, hV, rfl, hfz, hnd⟩ := hW
  rw [hv] at hV
  obtain ⟨_, rfl⟩ := trodVars_none hV
  have hlt : ∀ x ∈ p, x.block < W.heap.size := fun x hx => by simpa using hW'.lt x (List.mem_append_left _ hx)
  refine ⟨ds, [], _, [], p, [], hW', ?_, ?_, ?_, hb.frame _, fun h => by cases h⟩
  · rw [List.append_nil, hfn, ht]; exact trodAll_mk1 (shut_bool Tryz.underlying4 _)
  · rw [List.append_nil, hfn]; exact trodAll_below laidOut hb hr hA hlt
  · rw [List.append_nil, hfn, hv]; rfl
theorem trod_flt {P : Program} {w : World} {base : Nat} {spare : Nat → Bool} {held : Bool} {k : FloatKind} {t : TypeId} {fuel : Nat} {cs : List Value} {x : DataW H × List MemPlace} (ht : P.underlying t = some (.float k)) (h : DataW.trod enc P w base spare held fuel t cs = some x) : ∃ n, cs = [.float k n] := by
  cases fuel with
  | zero => simp [DataW.trod] at h
  | succ n =>
    unfold DataW.trod at h
    rw [ht] at h
    split at h <;> simp_all
theorem plain_of {w : World} {a : Addr} {u : Value} (h : w.cell? a = some u) : ∃ g off, a = ⟨g, off, none⟩ := by
  obtain ⟨g, off, sp⟩ := a
  cases sp with
  | none => exact ⟨g, off, rfl⟩
  | some s =>
    exfalso
    simp only [World.cell?] at h
    split at h <;> simp at h
theorem lt_of_cell {w : World} {g o : Nat} {u : Value} (h : w.cell? ⟨g, o, none⟩ = some u) : g < w.heap.size := by
  unfold World.cell? at h
  rcases Nat.lt_or_ge g w.heap.size with hlt | hge
  · exact hlt
  · rw [show w.heap[g]? = none from Array.getElem?_eq_none hge] at h; cases h
theorem add_at (g off j : Nat) : (⟨g, off, none⟩ : Addr).add j = ⟨g, off + j, none⟩ := by unfold Addr.add; split <;> simp_all
theorem trod_sl {P : Program} {w : World} {base : Nat} {spare : Nat → Bool} {held : Bool} {t e : TypeId} {fuel : Nat} {cs : List Value} {x : DataW H × List MemPlace} (ht : P.underlying t = some (.slice e)) (h : DataW.trod enc P w base spare held fuel t cs = some x) : ∃ a n c, cs = [.slice a n c] := by
  rcases Go.Deep.open_slice ht h with ⟨h0, _⟩ | ⟨a, len, cap, m, n, D, Pl, h0, _⟩
  · exact ⟨_, _, _, h0⟩
  · exact ⟨_, _, _, h0⟩
/-- the programs of a model -/
theorem open_progs {W : World} {fuel : Nat} {cs : List Value} {x : DataW H × List MemPlace} (h : DataW.trod enc Tryz.prog W 0 (fun _ => true) true fuel 24 cs = some x) : ∃ a n c, cs = [.slice a n c] ∧ Rows2 W a n 1 0 := by
  rcases Go.Deep.open_slice1 Tryz.underlying24 (by kernel_rfl) h with ⟨h0, _⟩ | ⟨a, len, cap, m, n, V, D, Pl, h0, _, hl, _, hm, _, hx⟩
  · exact ⟨_, _, _, h0, fun i hi => by omega⟩
  · refine ⟨_, _, _, h0, fun i hi => ?_⟩
    have hlm : len ≤ m := by rw [hm]; split <;> omega
    obtain ⟨h1, h2⟩ := hx i (by omega)
    obtain ⟨a', n', c', h3⟩ := trod_sl Tryz.underlying53 h2
    injection h3 with h3
    obtain ⟨g, off, rfl⟩ : ∃ g off, a = ⟨g, off, none⟩ := by
      have h4 := (hx 0 (by omega)).1
      rw [show a.add 0 = a by simp [Addr.add]] at h4
      exact plain_of h4
    rw [add_at, h3] at h1
    exact ⟨g, off, rfl, lt_of_cell h1, a', n', c', by rw [Nat.mul_one, Nat.add_zero]; exact h1⟩
/-- the processes of a model -/
theorem open_lps {W : World} {fuel : Nat} {cs : List Value} {x : DataW H × List MemPlace} (h : DataW.trod enc Tryz.prog W 0 (fun _ => true) true fuel 25 cs = some x) : ∃ a n c, cs = [.slice a n c] ∧ Rows2 W a n 2 1 := by
  rcases Go.Deep.open_slice_pairs Tryz.underlying25 Tryz.underlying55 (by kernel_rfl) rfl rfl (by kernel_rfl) (by kernel_rfl) h with ⟨h0, _⟩ | ⟨a, len, cap, m, n, V0, V1, D0, D1, P0, P1, h0, _, hl, _, hm, _, hx⟩
  · exact ⟨_, _, _, h0, fun i hi => by omega⟩
  · refine ⟨_, _, _, h0, fun i hi => ?_⟩
    have hlm : len ≤ m := by rw [hm]; split <;> omega
    obtain ⟨_, h1, _, h2⟩ := hx i (by omega)
    obtain ⟨a', n', c', h3⟩ := trod_sl (P := Tryz.prog) (t := 38) Tryz.underlying38 h2
    injection h3 with h3
    obtain ⟨g, off, rfl⟩ : ∃ g off, a = ⟨g, off, none⟩ := by
      have h4 := (hx 0 (by omega)).1
      rw [Nat.zero_mul, show a.add 0 = a by simp [Addr.add]] at h4
      exact plain_of h4
    rw [add_at, h3, ← Nat.add_assoc] at h1
    exact ⟨g, off, rfl, lt_of_cell h1, a', n', c', h1⟩
/-- a model that came in -/
theorem open_model {W : World} {base : Nat} {v : Value} {d : DataW H} {p : List MemPlace} (hv : Value.okWide Tryz.prog W .any base 28 v) (h : DataW.Trod enc Tryz.prog W 0 (fun _ => true) true 28 v d p) :
    ∃ seed en da dn dc pa pn pc la ln lc ia iN ic, ModelIn W v seed en da dn dc pa pn pc la ln lc ia iN ic := by
  obtain ⟨cs, rfl, hc⟩ := okWide_struct Tryz.underlying28 hv
  obtain ⟨fuel, hf⟩ := h
  obtain ⟨xs, n, _, _, hlen, hxl, hx⟩ := DataW.trod_struct Tryz.underlying28 hf
  have h6 : Tryz.prog.cellsOf 28 = 6 := by kernel_rfl
  have hcl : cs.toList.length = 6 := by rw [← h6, ← hc]; simp
  obtain ⟨l, rfl⟩ : ∃ l : List Value, cs = l.toArray := ⟨cs.toList, by simp⟩
  have hxl : xs.length = 6 := hxl
  match l, hcl, xs, hxl with
  | [c0, c1, c2, c3, c4, c5], _, [x0, x1, x2, x3, x4, x5], _ =>
    have f0 := hx 0 _ rfl
    have f1 := hx 1 _ rfl
    have f2 := hx 2 _ rfl
    have f3 := hx 3 _ rfl
    have f4 := hx 4 _ rfl
    have f5 := hx 5 _ rfl
    have k0 : Tryz.prog.cellsOf 3 = 1 := by kernel_rfl
    have k1 : Tryz.prog.cellsOf 22 = 1 := by kernel_rfl
    have k2 : Tryz.prog.cellsOf 23 = 1 := by kernel_rfl
    have k3 : Tryz.prog.cellsOf 24 = 1 := by kernel_rfl
    have k4 : Tryz.prog.cellsOf 25 = 1 := by kernel_rfl
    have k5 : Tryz.prog.cellsOf 26 = 1 := by kernel_rfl
    simp [Value.cells, k0, k1, k2, k3, k4, k5] at f0 f1 f2 f3 f4 f5
    obtain ⟨seed, e0, _⟩ := DataW.trod_int Tryz.underlying3 f0
    obtain ⟨en, e1⟩ := trod_flt Tryz.underlying22 f1
    obtain ⟨da, dn, dc, e2⟩ := trod_sl Tryz.underlying23 f2
    obtain ⟨pa, pn, pc, e3, r3⟩ := open_progs f3
    obtain ⟨la, ln, lc, e4, r4⟩ := open_lps f4
    obtain ⟨ia, iN, ic, e5⟩ := trod_sl Tryz.underlying26 f5
    injection e0 with e0; injection e1 with e1; injection e2 with e2; injection e3 with e3; injection e4 with e4; injection e5 with e5
    subst e0; subst e1; subst e2; subst e3; subst e4; subst e5
    exact ⟨seed, en, da, dn, dc, pa, pn, pc, la, ln, lc, ia, iN, ic, rfl, r3, r4⟩
end
end Go.Proofs.YtkdjhegkcfmkoaaGreat
