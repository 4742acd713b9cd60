/- The abstract machine over this program: slices.Insert of elements of three cells, at the end and where there is no room. -/
import Derived.Test.YtkdjhegkcfmkoaaGreatMm
namespace Go.Proofs.YtkdjhegkcfmkoaaGreat.AM
open Go.AM Go.Shelf Go.RowKit Go.Lib
set_option maxRecDepth 100000
/-- what is inserted -/
theorem src3 {el : Nat} {z : List AV} {ti : TypeInfo} {zv : Value} (ht : ElemT sliceT el 3 z ti zv) {w : World} {vb voff m vc : Nat} {vs : List Value} (lv : vs.length = m * 3) (ov : One vs) (vals : ∀ (j : Nat) v, vs[j]? = some v → w.cell? ⟨vb, voff + j, none⟩ = some v) :
    Src Tryz.prog ti.size sliceT (.slice (some ⟨vb, voff, none⟩) m vc) m vs w :=
  Src.ofSlice w ht.und ⟨vb, voff, none⟩ m vc vs (by rw [ht.size, lv]) (fun j u hj => by rw [Addr.add_lit]; exact vals j u hj) ov
set_option maxHeartbeats 4000000 in
/-- at the end, there is room: in place -/
theorem insert_end_room {el : Nat} {z : List AV} {ti : TypeInfo} {zv : Value} (ht : ElemT sliceT el 3 z ti zv) {w : World} {b off n c vb voff m vc : Nat} {cs vs : List Value} (h : InsOn w b off n c n vb voff m cs vs) (hroom : n + m ≤ c) :
    Calls Tryz.prog 257 #[.slice (some ⟨b, off, none⟩) n c, .int .i64 n, .slice (some ⟨vb, voff, none⟩) m vc] w fun e w' =>
      e = .returned (.slice (some ⟨b, off, none⟩) (n + m) c) ∧ w' = w.setCells b (off + n * 3) vs := by
  have hm := h.hm
  have hsm := h.small
  have hz1 : ¬ ((m : Int) = 0) := by omega
  have mixed : Tryz.prog.follows .mixedOrders = true := by kernel_rfl
  have hrun : ∀ ty, (Builtin.append_ #[sliceT, sliceT] ty #[.slice (some ⟨b, off, none⟩) n c, .slice (some ⟨vb, voff, none⟩) m vc]).run Tryz.prog w = .ok (.slice (some ⟨b, off, none⟩) (n + m) c) (w.setCells b (off + n * 3) vs) := fun ty => by
    have := (app_src (ty := ty) ht (src3 (vc := vc) ht h.lv h.ov h.vals)).room b off n c hroom (fun j hj => by rw [ht.size, Nat.add_assoc]; exact (h.room _ (by rw [h.lv] at hj; omega)).1) (fun j hj => by rw [ht.size, Nat.add_assoc]; exact (h.room _ (by rw [h.lv] at hj; omega)).2)
    rw [ht.size] at this
    exact this
  go_enter Tryz.func257, Tryz.ntmps257
  go_wp2_with (at_builtin; refine Lib.wpList_append_run _ rfl _ _ _ _ rfl _ _ rfl rfl _ _ (hrun _) ?_)
  all_goals (go_ret; exact ⟨rfl, rfl⟩)
set_option maxHeartbeats 4000000 in
/-- at the end, there is no room: a new row -/
theorem insert_end_grow {el : Nat} {z : List AV} {ti : TypeInfo} {zv : Value} (ht : ElemT sliceT el 3 z ti zv) {w : World} {base : Option Addr} {n c vb voff m vc : Nat} {cs vs : List Value} (hm : 0 < m) (hsm : n + m ≤ 100000) (hnc : n ≤ c) (hroom : c < n + m)
    (lc : cs.length = n * 3) (lv : vs.length = m * 3) (ov : One vs) (vals : ∀ (j : Nat) v, vs[j]? = some v → w.cell? ⟨vb, voff + j, none⟩ = some v) (hnil : base = none → n = 0) (hcs : ∀ a, base = some a → ∀ (j : Nat) v, cs[j]? = some v → w.cell? (a.add j) = some v) :
    Calls Tryz.prog 257 #[.slice base n c, .int .i64 n, .slice (some ⟨vb, voff, none⟩) m vc] w fun e w' =>
      e = .returned (.slice (some ⟨w.heap.size, 0, none⟩) (n + m) (grownCap w (n + m) c el)) ∧ w' = w.drew.alloc (.cells ((cs ++ vs).toArray ++ Builtin.zeroCells zv.cells (grownCap w (n + m) c el - (n + m))) el) := by
  have hz1 : ¬ ((m : Int) = 0) := by omega
  have mixed : Tryz.prog.follows .mixedOrders = true := by kernel_rfl
  have hold : (Builtin.firstCells ti.size n (.slice base n c)).run Tryz.prog w.drew = .ok cs.toArray w.drew := by
    cases base with
    | none =>
      have h0 := hnil rfl
      subst h0
      rw [List.length_eq_zero_iff.1 (show cs.length = 0 by omega)]
      exact run_firstCells_none w.drew _ 0 0 c
    | some a => exact run_firstCells_some w.drew _ n a n c cs (by rw [ht.size, lc]) (fun j v hj => hcs a rfl j v hj)
  have hrun : ∀ ty, (Builtin.append_ #[sliceT, sliceT] ty #[.slice base n c, .slice (some ⟨vb, voff, none⟩) m vc]).run Tryz.prog w = _ := fun ty =>
    (app_src (ty := ty) ht (src3 (vc := vc) ht lv ov vals)).grow base n c cs hold hroom (by omega)
  go_enter Tryz.func257, Tryz.ntmps257
  cases base with
  | none =>
    have h0 := hnil rfl
    subst h0
    go_wp2_with (at_builtin; refine Lib.wpList_append_run _ rfl _ _ _ _ rfl _ _ rfl rfl _ _ (hrun _) ?_)
    all_goals (go_ret; exact ⟨rfl, rfl⟩)
  | some a =>
    obtain ⟨ab, ao, asp⟩ := a
    go_wp2_with (at_builtin; refine Lib.wpList_append_run _ rfl _ _ _ _ rfl _ _ rfl rfl _ _ (hrun _) ?_)
    all_goals (go_ret; exact ⟨rfl, rfl⟩)
end Go.Proofs.YtkdjhegkcfmkoaaGreat.AM
namespace Go.Proofs.YtkdjhegkcfmkoaaGreat.AM
open Go.AM Go.Shelf Go.RowKit Go.Lib
set_option maxRecDepth 100000
/-- the new row ahead of the two copies -/
def grownRow (zv : Value) (cs : List Value) (i k g : Nat) : Array Value := (cs.take (i * 3) ++ (Builtin.zeroCells zv.cells k).toList).toArray ++ Builtin.zeroCells zv.cells (g - (i + k))
set_option maxHeartbeats 4000000 in
/-- in the midst, there is no room: a new row -/
theorem insert_grow {el : Nat} {z : List AV} {ti : TypeInfo} {zv : Value} (ht : ElemT sliceT el 3 z ti zv) {w : World} {b off n c i vb voff m vc : Nat} {cs vs : List Value} (h : InsOn w b off n c i vb voff m cs vs) (hi : i < n) (hroom : c < n + m) :
    Calls Tryz.prog 257 #[.slice (some ⟨b, off, none⟩) n c, .int .i64 i, .slice (some ⟨vb, voff, none⟩) m vc] w fun e w' =>
      e = .returned (.slice (some ⟨w.heap.size, 0, none⟩) (n + m) (grownCap w (n + m) c el)) ∧
      w' = (((w.alloc (.cells (grownRow zv cs i (n + m - i) (grownCap w (n + m) c el)) el)).drew.setCells w.heap.size (i * 3) vs).drew).setCells w.heap.size ((i + m) * 3) (cs.drop (i * 3)) := by
  have hm := h.hm
  have hsm := h.small
  have hnc := h.hnc
  have hz1 : ¬ ((m : Int) = 0) := by omega
  have hz2 : ¬ ((i : Int) = (n : Int)) := by omega
  have hz3 : (c : Int) < (n : Int) + (m : Int) := by omega
  have hbw : b < w.heap.size := block_lt_of_cell (h.cells 0 _ (List.getElem?_eq_getElem (by rw [h.lc]; omega)))
  have hvw : vb < w.heap.size := block_lt_of_cell (h.vals 0 _ (List.getElem?_eq_getElem (by rw [h.lv]; omega)))
  have hw2 : IntKind.i64.wrap ((n : Int) + (m : Int)) = (n : Int) + (m : Int) := by rw [IntKind.wrap_i64]; omega
  have hw3 : IntKind.i64.wrap ((n : Int) + (m : Int) - (i : Int)) = ((n + m - i : Nat) : Int) := by rw [IntKind.wrap_i64]; omega
  have hik : i + (n + m - i) = n + m := by omega
  have hold : (Builtin.firstCells ti.size i (.slice (some ⟨b, off, none⟩) i c)).run Tryz.prog w.drew = .ok (cs.take (i * 3)).toArray w.drew := by
    exact run_firstCells_some w.drew _ i ⟨b, off, none⟩ i c (cs.take (i * 3)) (by rw [List.length_take, h.lc, ht.size]; omega) (fun j v hj => by
      rw [Addr.add_lit]
      rw [List.getElem?_take] at hj
      split at hj
      · exact h.cells j v hj
      · cases hj)
  have hui : Tryz.prog.underlying 3 = some (.int .i64) := by kernel_rfl
  have hrz : ∀ ty, (Builtin.append_ #[sliceT, 3] ty #[.slice (some ⟨b, off, none⟩) i c, .int .i64 ((n + m - i : Nat) : Int)]).run Tryz.prog w =
      .ok (.slice (some ⟨w.heap.size, 0, none⟩) (n + m) (grownCap w (n + m) c el)) (w.drew.alloc (.cells (grownRow zv cs i (n + m - i) (grownCap w (n + m) c el)) el)) := fun ty => by
    have := (app_zeros (ty := ty) (kx := .i64) (w := w) ht hui (n := n + m - i) (by omega)).grow (some ⟨b, off, none⟩) i c (cs.take (i * 3)) hold (by omega) (by omega)
    unfold grownRow
    rw [hik] at this ⊢
    exact this
  obtain ⟨G, hG⟩ : ∃ G, G = grownCap w (n + m) c el := ⟨_, rfl⟩
  have hGn : n + m ≤ G := by rw [hG]; exact grownCap_ge w _ _ _
  have hG63 : G ≤ 9223372036854775807 := by
    have := grownCap_le_maxLen w (n + m) c el (by unfold maxLen; omega)
    rw [← hG] at this
    unfold maxLen at this
    omega
  obtain ⟨ROW, hROW⟩ : ∃ ROW : Array Value, ROW = grownRow zv cs i (n + m - i) G := ⟨_, rfl⟩
  rw [← hG] at hrz ⊢
  rw [← hROW] at hrz ⊢
  have hRl : (n + m) * 3 ≤ ROW.size := by
    have h1 : (cs.take (i * 3)).length = i * 3 := by rw [List.length_take, h.lc]; omega
    rw [hROW]
    unfold grownRow
    rw [Array.size_append, List.size_toArray, List.length_append, h1, Array.length_toList, size_zeroCells, ht.cells]
    omega
  obtain ⟨W1, hW1⟩ : ∃ W1, W1 = w.drew.alloc (.cells ROW el) := ⟨_, rfl⟩
  rw [← hW1] at hrz
  have hN : ∀ j, j < (n + m) * 3 → (W1.cell? ⟨w.heap.size, j, none⟩).isSome = true := fun j hj => by
    rw [hW1, World.cell?_alloc_at (w := w.drew) ROW _ w.heap.size j rfl, Array.getElem?_eq_getElem (by omega)]; rfl
  have hNf : ∀ j, W1.frozen? ⟨w.heap.size, j, none⟩ = false := fun j => by rw [hW1]; exact World.frozen?_alloc_at (w := w.drew) ROW _ w.heap.size j rfl
  have hOb : ∀ j v, w.cell? ⟨b, j, none⟩ = some v → W1.cell? ⟨b, j, none⟩ = some v := fun j v h => by rw [hW1, World.cell?_alloc_past (w := w.drew) _ b j hbw]; exact h
  have hOv : ∀ j v, w.cell? ⟨vb, j, none⟩ = some v → W1.cell? ⟨vb, j, none⟩ = some v := fun j v h => by rw [hW1, World.cell?_alloc_past (w := w.drew) _ vb j hvw]; exact h
  have hcpA : ∀ (W : World), (∀ x, W.cell? x = W1.cell? x) → (∀ x, W.frozen? x = W1.frozen? x) → ∀ ty dc, (Builtin.copy_ #[sliceT, sliceT] ty #[.slice (some ⟨w.heap.size, i * 3, none⟩) (n + m - i) dc, .slice (some ⟨vb, voff, none⟩) m vc]).run Tryz.prog W = .ok (goInt (Nat.min m (n + m - i))) (W.setCells w.heap.size (i * 3) vs) := fun W hWc hWf ty dc =>
    copy3 ht W ty w.heap.size (i * 3) (n + m - i) dc ⟨vb, voff, none⟩ m vc vs (by rw [h.lv]; simp only [Nat.min_def]; split <;> omega)
      (fun j v hj => by rw [Addr.add_lit, hWc]; exact hOv _ v (h.vals j v hj))
      (fun j hj => by rw [hWc]; exact hN _ (by rw [h.lv] at hj; omega)) (fun j hj => by rw [hWf]; exact hNf _) h.ov
  have hGi : ¬ (G = i) := by omega
  have hGim : ¬ (G = i + m) := by omega
  have hci : ¬ (c = i) := by omega
  have hbN : b ≠ w.heap.size := by omega
  have hdl : (cs.drop (i * 3)).length = (n - i) * 3 := by rw [List.length_drop, h.lc]; omega
  have hcpB : ∀ (W : World), (∀ x, W.cell? x = (W1.setCells w.heap.size (i * 3) vs).cell? x) → (∀ x, W.frozen? x = (W1.setCells w.heap.size (i * 3) vs).frozen? x) → ∀ ty dc sc, (Builtin.copy_ #[sliceT, sliceT] ty #[.slice (some ⟨w.heap.size, (i + m) * 3, none⟩) (n + m - (i + m)) dc, .slice (some ⟨b, off + i * 3, none⟩) (n - i) sc]).run Tryz.prog W = .ok (goInt (Nat.min (n - i) (n + m - (i + m)))) (W.setCells w.heap.size ((i + m) * 3) (cs.drop (i * 3))) := fun W hWc hWf ty dc sc =>
    copy3 ht W ty w.heap.size ((i + m) * 3) (n + m - (i + m)) dc ⟨b, off + i * 3, none⟩ (n - i) sc (cs.drop (i * 3)) (by rw [hdl]; simp only [Nat.min_def]; split <;> omega)
      (fun j v hj => by
        rw [Addr.add_lit, hWc, World.cell?_setCells_out _ _ _ _ _ (fun h _ => absurd h hbN), Nat.add_assoc]
        exact hOb _ v (h.cells (i * 3 + j) v (by rwa [List.getElem?_drop] at hj)))
      (fun j hj => by rw [hWc]; exact isSome_setCells _ _ _ _ (fun t ht => hN _ (by rw [h.lv] at ht; omega)) _ (hN _ (by omega)))
      (fun j hj => by rw [hWf, World.frozen?_setCells]; exact hNf _) (fun v hv => h.oc v (List.mem_of_mem_drop hv))
  subst hW1
  have hE1 : ∀ x, ((w.alloc (.cells ROW el)).drew).cell? x = (w.drew.alloc (.cells ROW el)).cell? x := fun x => rfl
  have hE2 : ∀ x, ((w.alloc (.cells ROW el)).drew).frozen? x = (w.drew.alloc (.cells ROW el)).frozen? x := fun x => rfl
  have hF1 : ∀ x, (((w.alloc (.cells ROW el)).drew.setCells w.heap.size (i * 3) vs).drew).cell? x = ((w.drew.alloc (.cells ROW el)).setCells w.heap.size (i * 3) vs).cell? x := fun x => rfl
  have hF2 : ∀ x, (((w.alloc (.cells ROW el)).drew.setCells w.heap.size (i * 3) vs).drew).frozen? x = ((w.drew.alloc (.cells ROW el)).setCells w.heap.size (i * 3) vs).frozen? x := fun x => rfl
  have hw1 : IntKind.i64.wrap ((i : Int) + (m : Int)) = (i : Int) + (m : Int) := by rw [IntKind.wrap_i64]; omega
  have hb1 : (0 : Int) ≤ (i : Int) + (m : Int) := by omega
  have hin : i ≤ n := by omega
  have htn : ((i : Int) + (m : Int)).toNat = i + m := by omega
  have hb3 : (i : Int) ≤ (n : Int) := by omega
  have mixed : Tryz.prog.follows .mixedOrders = true := by kernel_rfl
  clear hik hold hROW hG hRl
  go_enter Tryz.func257, Tryz.ntmps257
  go_wp2_with (first
    | (at_builtin; refine Lib.wpList_append_run _ rfl _ _ _ _ rfl _ _ rfl rfl _ _ (hrz _) ?_)
    | (at_builtin; refine wpList_copy_runI _ rfl _ _ sliceT sliceT rfl _ _ rfl rfl (hcpA _ hE1 hE2 _ _) ?_)
    | (at_builtin; refine wpList_copy_runI _ rfl _ _ sliceT sliceT rfl _ _ rfl rfl (hcpB _ (fun _ => rfl) (fun _ => rfl) _ _ _) ?_))
  go_region_law_o (refine step_copy_runI rfl _ _ sliceT sliceT rfl (.slice (some ⟨w.heap.size, (i + m) * 3, none⟩) (n + m - (i + m)) (G - (i + m))) (.slice (some ⟨b, off + i * 3, none⟩) (n - i) (c - i)) (by simp [Act.eval, Act.put]) (by simp [Act.eval, Act.put]) (hcpB _ hF1 hF2 3 (G - (i + m)) (c - i)) ?_)
  go_wp2
  go_ret
  exact ⟨rfl, rfl⟩
end Go.Proofs.YtkdjhegkcfmkoaaGreat.AM
