/- What List, Count, Free and New of a map of pages do. -/
import Derived.Test.YtmkckichkmgemaaFm2
namespace Go.Proofs.Ytmkckichkmgemaa
open Go.RowKit
theorem Try.infoInt : (Try.prog.info? 3).map (fun i => (i.zero, i.size, i.bytes)) = some (some (.int .i64 0), 1, 8) := by kernel_rfl

namespace Fm

/-- the places below k at which v stands -/
def placesTo (l : List Int) (v : Int) (k : Nat) : List Nat := (List.range k).filter (fun i => l.getD i 0 == v)
def places (l : List Int) (v : Int) : List Nat := placesTo l v l.length
def vals (l : List Nat) : List Value := l.map (fun (i : Nat) => Value.int .i64 (i : Int))
theorem placesTo_le (l : List Int) (v : Int) (k : Nat) : (placesTo l v k).length ≤ k := by
  have := List.length_filter_le (fun i => l.getD i 0 == v) (List.range k)
  simpa [placesTo] using this
theorem placesTo_yes {l : List Int} {v : Int} {k : Nat} (h : (l.getD k 0 == v) = true) : placesTo l v (k + 1) = placesTo l v k ++ [k] := by
  unfold placesTo; rw [List.range_succ, List.filter_append]; simp only [List.filter_cons, h, if_true, List.filter_nil]
theorem placesTo_no {l : List Int} {v : Int} {k : Nat} (h : (l.getD k 0 == v) = false) : placesTo l v (k + 1) = placesTo l v k := by
  unfold placesTo; rw [List.range_succ, List.filter_append]; simp only [List.filter_cons, h, List.filter_nil, List.append_nil, Bool.false_eq_true, if_false]
theorem vals_snoc (l : List Nat) (k : Nat) : vals (l ++ [k]) = vals l ++ [.int .i64 k] := by simp [vals]

set_option maxHeartbeats 400000 in
theorem list_nil (v : Int) (w : World) :
    Calls Try.prog 10 #[.pointer none, .int .i64 v] w fun e w' => e = .returned (.slice none 0 0) ∧ w = w' := by
  go_enter Try.func10, Try.ntmps10
  go_wp2
  go_ret
  exact ⟨rfl, rfl⟩

set_option maxHeartbeats 800000 in
set_option maxRecDepth 100000 in
theorem list_any (b a : Nat) (l : List Int) (v : Int) (w : World) (h : At w b a l) :
    Calls Try.prog 10 #[.pointer (some ⟨b, 0, none⟩), .int .i64 v] w fun e w' =>
      ∃ u, e = .returned u ∧ w'.ownsRow w.heap.size 3 1 u (places l v).length (vals (places l v)) ∧ Below w.heap.size w w' := by
  obtain ⟨i0, hi, hz0, hz1, hz2⟩ := info_parts Try.infoInt
  have hs := h.small
  have hc := cell_at (i := 0) h.head rfl
  go_enter Try.func10, Try.ntmps10
  go_wp2
  go_loopw [5, 6, 7, 16] (fun u _ _ i wr => ∃ k : Nat, k ≤ l.length ∧ i = .int .i64 k ∧ wr.ownsRow w.heap.size 3 1 u (placesTo l v k).length (vals (placesTo l v k)) ∧ Below w.heap.size w wr) (fun _ _ _ i _ => l.length - (intOf i).toNat)
  case atStart => exact ⟨0, Nat.zero_le _, rfl, World.ownsRow_nil w _ _ _, Below.refl _ _⟩
  case round =>
    obtain ⟨k, hk, rfl, hown, hbel⟩ := hrel
    by_cases hlt : k < l.length
    · have hx := (hbel.cell (p := ⟨a, k, none⟩) (lt_of_block h.list)).trans (h.cell hlt)
      have hple := placesTo_le l v k
      cases hb : l.getD k 0 == v with
      | false =>
        have HP := Lib.hid (placesTo_no hb)
        generalize l.getD k 0 = x at hx hb
        go_wp2
        go_roundw
        case rel => exact ⟨k + 1, by omega, by go_num, by rw [HP.out]; exact hown, hbel⟩
        case measure => simp [intOf]; omega
      | true =>
        have HP := Lib.hid (placesTo_yes hb)
        have hsz := hbel.size
        generalize l.getD k 0 = x at hx hb
        go_wp2_with (at_builtin; refine wpList_append_own _ rfl _ _ 28 rfl w.heap.size 3 i0 (.int .i64 0) 1 8 Try.underlying28 hi hz0 hz1 hz2 rfl (by decide) _ _ _ rfl (hown.alloc _) ⟨wr.heap.size, 0, none⟩ 1 1 [.int .i64 (k : Int)] rfl rfl ?c1 ?c2 ?c3 ?c4 ?c5 ?_)
        case c1 => intro j u hj; match j, hj with | 0, hj => simp at hj; subst hj; simp [Addr.add]
        case c2 => intro u hu; simp at hu; subst hu; rfl
        case c3 => unfold maxLen; omega
        case c4 => omega
        case c5 => simp; omega
        intro u' w1 hown1 hgrow _
        have hbel1 : Below w.heap.size w w1 := (hbel.alloc hsz _).grown hgrow (by simp; omega) (fun k h => (hown.lt k h).1)
        clear hgrow hown hbel
        go_wp2
        go_roundw
        case rel => exact ⟨k + 1, by omega, by go_num, by rw [HP.out, vals_snoc, List.length_append]; exact hown1, hbel1⟩
        case measure => simp [intOf]; omega
    · have hkl : Hid (k = l.length) := by show _ = _; omega
      go_wp2
      go_ret
      exact ⟨_, rfl, by rw [show places l v = placesTo l v k by rw [hkl.out]; rfl]; exact hown, hbel⟩

theorem slice_of_owns {w : World} {B : Nat} {e : TypeId} {sz : Nat} {u : Value} {n : Nat} {xs : List Value} (h : w.ownsRow B e sz u n xs) : ∃ o c, u = .slice o n c := by
  rcases h.2 with ⟨rfl, rfl⟩ | ⟨g, cap, cur, rfl, _⟩
  · exact ⟨_, _, rfl⟩
  · exact ⟨_, _, rfl⟩

set_option maxHeartbeats 400000 in
theorem free_any (b a : Nat) (l : List Int) (w : World) (h : At w b a l) :
    Calls Try.prog 18 #[.pointer (some ⟨b, 0, none⟩)] w fun e w' =>
      e = .returned (.int .i64 (places l 0).length) ∧ Below w.heap.size w w' := by
  go_enter Try.func18, Try.ntmps18
  go_wp2_with (go_at_call 10; refine (list_any b a l 0 _ h).mono ?_; rintro e w' ⟨u, rfl, hown, hbel⟩; obtain ⟨o, c, rfl⟩ := slice_of_owns hown)
  go_ret
  exact ⟨rfl, hbel⟩
set_option maxHeartbeats 400000 in
theorem free_nil (w : World) :
    Calls Try.prog 18 #[.pointer none] w fun e w' => e = .returned (.int .i64 0) ∧ w = w' := by
  go_enter Try.func18, Try.ntmps18
  go_wp2_with (go_at_call 10; refine (list_nil 0 _).mono ?_; rintro e w' ⟨rfl, rfl⟩)
  go_ret
  exact ⟨rfl, rfl⟩

/-- the inner function of Count: it holds the place of the receiver -/
theorem many_any (c b a : Nat) (l : List Int) (v : Int) (w : World) (h : At w b a l) (hc : w.heap[c]? = some (.cells #[.pointer (some ⟨b, 0, none⟩)] 23 (0, 0))) :
    Calls Try.prog 26 #[.int .i64 v, .pointer (some ⟨c, 0, none⟩)] w fun e w' =>
      e = .returned (.int .i64 (places l v).length) ∧ Below w.heap.size w w' := by
  have hcell := cell_of_one hc
  go_enter Try.func26, Try.ntmps26
  go_wp2_with (go_at_call 10; refine (list_any b a l v _ h).mono ?_; rintro e w' ⟨u, rfl, hown, hbel⟩; obtain ⟨o, c, rfl⟩ := slice_of_owns hown)
  go_ret
  exact ⟨rfl, hbel⟩

theorem At.below {w w' : World} {b a : Nat} {l : List Int} (h : At w b a l) (k : Below w.heap.size w w') : At w' b a l :=
  h.keep (S := fun _ => False) (Keep.of_below k) (fun e => e) (fun e => e)
theorem Below.at {w w' : World} (k : Below w.heap.size w w') {i : Nat} {o : Obj} (h : w.heap[i]? = some o) : w'.heap[i]? = some o :=
  (k.block i (lt_of_block h)).trans h
theorem Below.next {a b c : World} (h : Below a.heap.size a b) (k : Below b.heap.size b c) : Below a.heap.size a c := h.trans (k.mono h.size)

set_option maxHeartbeats 800000 in
theorem count_any (b a : Nat) (l : List Int) (w : World) (h : At w b a l) :
    Calls Try.prog 16 #[.pointer (some ⟨b, 0, none⟩)] w fun e w' =>
      e = .returned (.tuple #[.int .i64 (places l 0).length, .int .i64 (places l 1).length, .int .i64 (places l 2).length, .int .i64 (places l 3).length]) ∧ Below w.heap.size w w' := by
  have hmf : ∀ (fn : Fn) (first cap : Array Value) (w : World), (Instr.makeFunc fn first cap).run Try.prog w = .ok (.func fn first cap) w := fun _ _ _ _ => rfl
  have b0 : Below w.heap.size w (w.alloc (.cells #[.pointer (some ⟨b, 0, none⟩)] 23)) := (Below.refl _ _).alloc (Nat.le_refl _) _
  have c0 := heap_alloc_last w (.cells #[.pointer (some ⟨b, 0, none⟩)] 23)
  have a0 := h.below b0
  go_enter Try.func16, Try.ntmps16
  go_wp2_with fail
  refine (many_any w.heap.size b a l 0 _ a0 c0).mono ?_
  rintro e w1 ⟨rfl, b1⟩
  have c1 := Below.at b1 c0
  have a1 := a0.below b1
  go_wp2_with fail
  refine (many_any w.heap.size b a l 1 _ a1 c1).mono ?_
  rintro e w2 ⟨rfl, b2⟩
  have c2 := Below.at b2 c1
  have a2 := a1.below b2
  go_wp2_with fail
  refine (many_any w.heap.size b a l 2 _ a2 c2).mono ?_
  rintro e w3 ⟨rfl, b3⟩
  have c3 := Below.at b3 c2
  have a3 := a2.below b3
  go_wp2_with fail
  refine (many_any w.heap.size b a l 3 _ a3 c3).mono ?_
  rintro e w4 ⟨rfl, b4⟩
  go_wp2
  exact bodyPost_ret (v := .tuple #[.int .i64 (places l 0).length, .int .i64 (places l 1).length, .int .i64 (places l 2).length, .int .i64 (places l 3).length]) (by simp [results, Try.results16, go_sem]) rfl
    ⟨rfl, Below.next (Below.next (Below.next (Below.next b0 b1) b2) b3) b4⟩
set_option maxHeartbeats 800000 in
theorem many_nil (c : Nat) (v : Int) (w : World) (hc : w.heap[c]? = some (.cells #[.pointer none] 23 (0, 0))) :
    Calls Try.prog 26 #[.int .i64 v, .pointer (some ⟨c, 0, none⟩)] w fun e w' =>
      e = .returned (.int .i64 0) ∧ w = w' := by
  have hcell := cell_of_one hc
  go_enter Try.func26, Try.ntmps26
  go_wp2_with (go_at_call 10; refine (list_nil v _).mono ?_; rintro e w' ⟨rfl, rfl⟩)
  go_ret
  exact ⟨rfl, rfl⟩
set_option maxHeartbeats 800000 in
theorem count_nil (w : World) :
    Calls Try.prog 16 #[.pointer none] w fun e w' =>
      e = .returned (.tuple #[.int .i64 0, .int .i64 0, .int .i64 0, .int .i64 0]) ∧ Below w.heap.size w w' := by
  have hmf : ∀ (fn : Fn) (first cap : Array Value) (w : World), (Instr.makeFunc fn first cap).run Try.prog w = .ok (.func fn first cap) w := fun _ _ _ _ => rfl
  have b0 : Below w.heap.size w (w.alloc (.cells #[.pointer none] 23)) := (Below.refl _ _).alloc (Nat.le_refl _) _
  have c0 := heap_alloc_last w (.cells #[.pointer none] 23)
  go_enter Try.func16, Try.ntmps16
  go_wp2_with (go_at_call 26; refine (many_nil w.heap.size _ _ c0).mono ?_; rintro e w' ⟨rfl, rfl⟩)
  exact bodyPost_ret (v := .tuple #[.int .i64 0, .int .i64 0, .int .i64 0, .int .i64 0]) (by simp [results, Try.results16, go_sem]) rfl ⟨rfl, b0⟩

def zeros (n : Nat) : List Int := List.replicate n 0
theorem zeros_length (n : Nat) : (zeros n).length = n := by simp [zeros]
theorem made_zeros (n : Nat) : madeCells (Value.cells (.int .i64 0)) (n * 1) = ints (zeros n) := by
  apply Array.ext'
  simp [madeCells, Value.cells, ints, zeros]
  apply List.ext_getElem
  · simp
  · intro i h1 h2
    simp [Nat.mod_one]

set_option maxHeartbeats 400000 in
theorem new_no (n : Int) (w : World) (h : n < 0 ∨ 1024 < n) :
    Calls Try.prog 21 #[.int .i64 n] w fun e w' => e = .returned (.tuple #[.pointer none, .int .i64 2]) ∧ w = w' := by
  rcases h with h | h
  · go_enter Try.func21, Try.ntmps21
    go_wp2
    go_ret2
    exact ⟨rfl, rfl⟩
  · have h0 : ¬ n < 0 := by omega
    go_enter Try.func21, Try.ntmps21
    go_wp2
    go_ret2
    exact ⟨rfl, rfl⟩

set_option maxHeartbeats 400000 in
theorem new_yes (n : Nat) (w : World) (h : n ≤ 1024) :
    Calls Try.prog 21 #[.int .i64 n] w fun e w' =>
      e = .returned (.tuple #[.pointer (some ⟨w.heap.size + 1, 0, none⟩), .int .i64 0]) ∧ At w' (w.heap.size + 1) w.heap.size (zeros n) ∧ Below w.heap.size w w' := by
  obtain ⟨i0, hi, hz0, hz1, hz2⟩ := info_parts Try.infoInt
  have hmk := fun w : World => run_make (P := Try.prog) w 28 3 i0 _ Try.underlying28 hi hz0 .i64 .i64 n n (by omega) (by omega) (by rw [hz2]; omega) (by omega)
  simp only [Int.toNat_natCast, hz1, made_zeros] at hmk
  go_enter Try.func21, Try.ntmps21
  go_wp2
  go_ret2
  refine ⟨rfl, ⟨?_, ?_, by rw [zeros_length]; exact h, by omega⟩, ((Below.refl _ _).alloc (Nat.le_refl _) _).alloc (by simp) _⟩
  · rw [zeros_length]
    have := heap_alloc_last (w.alloc (.cells (ints (zeros n)) 3)) (.cells #[.slice (some ⟨w.heap.size, 0, none⟩) n n] 50)
    simpa using this
  · exact heap_alloc_lt (heap_alloc_last w _) _

end Fm
end Go.Proofs.Ytmkckichkmgemaa
