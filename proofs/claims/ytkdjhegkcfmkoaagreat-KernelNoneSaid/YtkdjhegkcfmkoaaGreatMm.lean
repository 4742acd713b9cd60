/- The abstract machine over this program: functions whose answers are known. -/
import Derived.Test.YtkdjhegkcfmkoaaGreatMk
import Derived.Shelf.Spec.SlicesInsertGrow
namespace Go.Proofs.YtkdjhegkcfmkoaaGreat.AM
open Go.AM
set_option maxRecDepth 100000
/-- one that is taken as known is so -/
def PrimAt (g : Nat) (p : Prim) : Prop := ∀ l h (c : K2), p l h c = true → ∃ r h', c r h' = true ∧ h.nx.num ≤ h'.nx.num ∧
  ∀ (φ : Phi) (vs : Array Value) w (o : Oper) (a : Act) (next : Act → World → Prop) (Q : Exit → Act → World → Prop), Mem φ h w → RL φ l vs.toList →
    (∀ φ' w' r', Kept φ w φ' w' → Old h.nx.num φ φ' → Mem φ' h' w' → RV φ' r r' → next (a.put o.dst r') w') → o.upon Tryz.prog a next Q ((callFunc g vs).run Tryz.prog w)
/-- one that leaves memory alone -/
theorem prim_value {g : Nat} {p : Prim} (hp : ∀ l h (c : K2), p l h c = true → ∃ r, c r h = true ∧ ∀ (φ : Phi) (vs : Array Value) w, RL φ l vs.toList → ∃ r', (callFunc g vs).run Tryz.prog w = .ok (.value r') w ∧ RV φ r r') : PrimAt g p := by
  intro l h c hh
  obtain ⟨r, h1, h2⟩ := hp l h c hh
  refine ⟨r, h, h1, Nat.le_refl _, fun φ vs w o a next Q hm hr hn => ?_⟩
  obtain ⟨r', h3, h4⟩ := h2 φ vs w hr
  rw [h3]
  exact hn φ w r' (Kept.refl _ _) (Old.refl _ _) hm h4
theorem prim_bits : PrimAt 115 p_bits := prim_value fun l h c hh => by
  obtain ⟨x, rfl, g⟩ := arg1_spec hh
  obtain ⟨n, rfl, g1⟩ := onFlt_spec g
  refine ⟨_, g1, fun φ vs w hr => ⟨.int .u64 n, ?_, by rw [RV_int]; rfl⟩⟩
  obtain ⟨u, hu, h1⟩ := list1 hr
  rw [arr1v hu, run_callFunc_extern (e := Extern.MathFloatBits.float64bits) Tryz.func115 (by kernel_rfl) (by kernel_rfl) (by kernel_rfl) (by kernel_rfl)]
  have h1 : u = .float .f64 n := RV_at.1 h1
  subst h1
  rfl
theorem prim_ofBits : PrimAt 270 p_ofBits := prim_value fun l h c hh => by
  obtain ⟨x, rfl, g⟩ := arg1_spec hh
  obtain ⟨kd, n, rfl, g1⟩ := onInt_spec g
  obtain ⟨e1, g2⟩ := boolRec_t g1
  have e1 := beqK_spec e1
  subst e1
  cases n with
  | negSucc n => cases g2
  | ofNat n =>
    refine ⟨_, g2, fun φ vs w hr => ⟨.float .f64 n, ?_, RV_at.2 rfl⟩⟩
    obtain ⟨u, hu, h1⟩ := list1 hr
    rw [arr1v hu, run_callFunc_extern (e := Extern.MathFloatBits.float64frombits) Tryz.func270 (by kernel_rfl) (by kernel_rfl) (by kernel_rfl) (by kernel_rfl)]
    have h1 := RV_int.1 h1
    subst h1
    rfl
end Go.Proofs.YtkdjhegkcfmkoaaGreat.AM
namespace Go.Proofs.YtkdjhegkcfmkoaaGreat.AM
open Go.AM Go.Shelf Go.RowKit Go.Lib
set_option maxRecDepth 100000
abbrev sliceT : Nat := 334
/-- the elements' type -/
theorem elemE : ∃ el z i zv, ElemT sliceT el 3 z i zv := by
  have h : apK [sliceT, sliceT] = .mk false 3 (zeroC 337) := by kernel_rfl
  obtain ⟨⟨el, i, zv, ht⟩, _⟩ := apK_two h
  exact ⟨el, _, i, zv, ht⟩
theorem copy3 {el : Nat} {z : List AV} {i : TypeInfo} {zv : Value} (ht : ElemT sliceT el 3 z i zv) (w : World) (ty : TypeId) (b o dLen dCap : Nat) (a : Addr) (sLen sCap : Nat) (cs : List Value) (hn : cs.length = Nat.min sLen dLen * 3)
    (hsrc : ∀ (j : Nat) v, cs[j]? = some v → w.cell? (a.add j) = some v) (hc : ∀ j, j < cs.length → (w.cell? ⟨b, o + j, none⟩).isSome = true) (hf : ∀ j, j < cs.length → w.frozen? ⟨b, o + j, none⟩ = false) (h1 : ∀ v ∈ cs, v.oneCell' = true) :
    (Builtin.copy_ #[sliceT, sliceT] ty #[.slice (some ⟨b, o, none⟩) dLen dCap, .slice (some a) sLen sCap]).run Tryz.prog w = .ok (goInt (Nat.min sLen dLen)) (w.setCells b o cs) := by
  have hl := run_loadCells_list (P := Tryz.prog) w a cs hsrc
  have hst := run_storeCells_cells (P := Tryz.prog) b o cs 0 w (by simpa using hc) (by simpa using hf) h1
  have hs := ht.size
  simp [Builtin.copy_, run_underlying ht.und, run_sizeOf' ht.info, Builtin.lenOf, Builtin.firstCells, hs, ← hn, hl, hst]
end Go.Proofs.YtkdjhegkcfmkoaaGreat.AM
namespace Go.Proofs.YtkdjhegkcfmkoaaGreat.AM
open Go.AM Go.Shelf Go.RowKit Go.Lib
set_option maxRecDepth 100000
/-- what Insert is called with -/
structure InsOn (w : World) (b off n c i vb voff m : Nat) (cs vs : List Value) : Prop where
  hi : i ≤ n
  hm : 0 < m
  hnc : n ≤ c
  small : n + m ≤ 100000
  apart : vb ≠ b
  lc : cs.length = n * 3
  lv : vs.length = m * 3
  oc : One cs
  ov : One vs
  cells : ∀ (j : Nat) v, cs[j]? = some v → w.cell? ⟨b, off + j, none⟩ = some v
  vals : ∀ (j : Nat) v, vs[j]? = some v → w.cell? ⟨vb, voff + j, none⟩ = some v
  room : ∀ j, j < c * 3 → (w.cell? ⟨b, off + j, none⟩).isSome = true ∧ w.frozen? ⟨b, off + j, none⟩ = false
  mark : ∀ k, w.frozen? ⟨vb, k, none⟩ = false
theorem shape_of_cell {w : World} {b o : Nat} (h : (w.cell? ⟨b, o, none⟩).isSome = true) : ∃ t k, w.shape? b = some (t, k) ∧ k ≠ 0 := by
  unfold World.cell? at h
  unfold World.shape?
  cases hb : w.heap[b]? with
  | none => rw [hb] at h; cases h
  | some x =>
    rw [hb] at h
    cases x with
    | cells cs ty fz =>
      refine ⟨ty, cs.size, rfl, fun h0 => ?_⟩
      have : cs[o]? = none := Array.getElem?_eq_none (by omega)
      simp [this] at h
    | _ => cases h
theorem apart_ok {el : Nat} {z : List AV} {ti : TypeInfo} {zv : Value} (ht : ElemT sliceT el 3 z ti zv) {w : World} {b off n c i vb voff m vc : Nat} {cs vs : List Value} (h : InsOn w b off n c i vb voff m cs vs) (hroom : n + m ≤ c) (o lb cb : Nat) :
    (callFunc 328 #[.slice (some ⟨vb, voff, none⟩) m vc, .slice (some ⟨b, o, none⟩) lb cb]).run Tryz.prog w = .ok (.value (.bool false)) w := by
  have hm := h.hm
  have hv : (w.cell? ⟨vb, voff + 0, none⟩).isSome = true := by
    rw [h.vals 0 _ (List.getElem?_eq_getElem (show 0 < vs.length by rw [h.lv]; omega))]; rfl
  obtain ⟨tA, kA, hsa, _⟩ := shape_of_cell hv
  obtain ⟨tB, kB, hsb, hkB⟩ := shape_of_cell (h.room 0 (by omega)).1
  rw [run_callFunc_extern (e := Extern.SlicesOverlaps.overlaps #[sliceT, sliceT] #[4]) Tryz.func328 (by kernel_rfl) (by kernel_rfl) (by kernel_rfl) (by kernel_rfl),
    Lib.run_overlaps_apart w sliceT 4 el ht.und _ (fun w => run_sizeOf' ht.info (w := w)) ⟨vb, voff, none⟩ ⟨b, o, none⟩ m vc lb cb h.apart tA tB kA kB hsa hsb hkB (h.mark _) (h.mark _)]
  rfl
set_option maxHeartbeats 4000000 in
/-- there is room, in the midst: in place -/
theorem insert_shift {el : Nat} {z : List AV} {ti : TypeInfo} {zv : Value} (ht : ElemT sliceT el 3 z ti zv) {w : World} {b off n c i vb voff m vc : Nat} {cs vs : List Value} (h : InsOn w b off n c i vb voff m cs vs) (hi : i < n) (hroom : n + m ≤ c) :
    Calls Tryz.prog 257 #[.slice (some ⟨b, off, none⟩) n c, .int .i64 i, .slice (some ⟨vb, voff, none⟩) m vc] w fun e w' =>
      e = .returned (.slice (some ⟨b, off, none⟩) (n + m) c) ∧ w' = (w.drew.setCells b (off + (i + m) * 3) (cs.drop (i * 3))).setCells b (off + i * 3) vs := by
  have hm := h.hm
  have hsm := h.small
  have hz1 : ¬ ((m : Int) = 0) := by omega
  have hz2 : ¬ ((i : Int) = (n : Int)) := by omega
  have hw1 : IntKind.i64.wrap ((i : Int) + (m : Int)) = (i : Int) + (m : Int) := by rw [IntKind.wrap_i64]; omega
  have hw2 : IntKind.i64.wrap ((n : Int) + (m : Int)) = (n : Int) + (m : Int) := by rw [IntKind.wrap_i64]; omega
  have hb1 : (0 : Int) ≤ (i : Int) + (m : Int) := by omega
  have hin : i ≤ n := by omega
  have htn : ((i : Int) + (m : Int)).toNat = i + m := by omega
  have htn2 : ((n : Int) + (m : Int)).toNat = n + m := by omega
  have hb2 : ¬ (c = i + m) := by omega
  have hb3 : (i : Int) ≤ (n : Int) + (m : Int) := by omega
  have hb4 : ¬ (c = i) := by omega
  have hov := apart_ok (vc := vc) ht h hroom (off + (i + m) * 3)
  have hdl : (cs.drop (i * 3)).length = (n - i) * 3 := by rw [List.length_drop, h.lc]; omega
  have hcp1 : ∀ ty dc sc, (Builtin.copy_ #[sliceT, sliceT] ty #[.slice (some ⟨b, off + (i + m) * 3, none⟩) (n + m - (i + m)) dc, .slice (some ⟨b, off + i * 3, none⟩) (n + m - i) sc]).run Tryz.prog w.drew = .ok (goInt (Nat.min (n + m - i) (n + m - (i + m)))) (w.drew.setCells b (off + (i + m) * 3) (cs.drop (i * 3))) := fun ty dc sc =>
    copy3 ht w.drew ty b (off + (i + m) * 3) (n + m - (i + m)) dc ⟨b, off + i * 3, none⟩ (n + m - i) sc (cs.drop (i * 3)) (by rw [hdl]; simp only [Nat.min_def]; split <;> omega)
      (fun j v hj => by rw [Addr.add_lit, Nat.add_assoc]; exact h.cells (i * 3 + j) v (by rwa [List.getElem?_drop] at hj))
      (fun j hj => by rw [Nat.add_assoc]; exact (h.room _ (by omega)).1) (fun j hj => by rw [Nat.add_assoc]; exact (h.room _ (by omega)).2) (fun v hv => h.oc v (List.mem_of_mem_drop hv))
  obtain ⟨W1, hW1⟩ : ∃ W1, W1 = w.drew.setCells b (off + (i + m) * 3) (cs.drop (i * 3)) := ⟨_, rfl⟩
  have hsp1 : ∀ k, k < c * 3 → (W1.cell? ⟨b, off + k, none⟩).isSome = true := fun k hk => by
    rw [hW1]
    exact isSome_setCells b _ _ _ (fun j hj => by rw [Nat.add_assoc]; exact (h.room _ (by omega)).1) _ (h.room k hk).1
  have hcp2 : ∀ (W : World), (∀ x, W.cell? x = W1.cell? x) → (∀ x, W.frozen? x = W1.frozen? x) → ∀ ty dc, (Builtin.copy_ #[sliceT, sliceT] ty #[.slice (some ⟨b, off + i * 3, none⟩) (n + m - i) dc, .slice (some ⟨vb, voff, none⟩) m vc]).run Tryz.prog W = .ok (goInt (Nat.min m (n + m - i))) (W.setCells b (off + i * 3) vs) := fun W hWc hWf ty dc =>
    copy3 ht W ty b (off + i * 3) (n + m - i) dc ⟨vb, voff, none⟩ m vc vs (by rw [h.lv]; simp only [Nat.min_def]; split <;> omega)
      (fun j v hj => by
        rw [Addr.add_lit, hWc, hW1, World.cell?_setCells_out b _ _ _ _ (fun hh _ => absurd hh h.apart)]
        exact h.vals j v hj)
      (fun j hj => by rw [hWc, Nat.add_assoc]; exact hsp1 _ (by rw [h.lv] at hj; omega)) (fun j hj => by rw [hWf, hW1, World.frozen?_setCells, Nat.add_assoc]; exact (h.room _ (by rw [h.lv] at hj; omega)).2) h.ov
  rw [← hW1] at hcp1
  have mixed : Tryz.prog.follows .mixedOrders = true := by kernel_rfl
  go_enter Tryz.func257, Tryz.ntmps257
  go_wp2_with (simp only [hov])
  go_region_law_o (refine step_copy_runI rfl _ _ sliceT sliceT rfl _ _ (by simp [Act.eval, Act.put]) (by simp [Act.eval, Act.put]) (hcp1 _ _ _) ?_)
  go_wp2_with (at_builtin; refine wpList_copy_runI _ rfl _ _ sliceT sliceT rfl _ _ rfl rfl (hcp2 _ (fun _ => rfl) (fun _ => rfl) _ _) ?_)
  go_ret
  first | exact ⟨rfl, rfl⟩ | exact ⟨rfl, by rw [hW1]⟩
end Go.Proofs.YtkdjhegkcfmkoaaGreat.AM
