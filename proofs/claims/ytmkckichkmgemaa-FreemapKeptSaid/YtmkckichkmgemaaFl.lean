/- What the statements' own inner functions of layer 12 do: a call of both maps, and both maps behind some calls. -/
import Derived.Test.YtmkckichkmgemaaFr2
import Derived.Deep.RegionWith
namespace Go.Proofs.Ytmkckichkmgemaa
open Go.RowKit
namespace Fl

/-- both maps, with the same kinds, apart from each other -/
structure Both (w : World) (b a x : Nat) (v : Value) (l : List Int) : Prop where
  m : Fm.At w b a l
  r : Fr.At w x v l
  ax : a ≠ x
  bx : b ≠ x
  va : v.ownBlock ≠ some a
  vb : v.ownBlock ≠ some b

theorem Both.keep {w w' : World} {b a x : Nat} {v : Value} {l : List Int} {S : Nat → Prop} (h : Both w b a x v l) (k : Keep S w w') (hb : ¬ S b) (ha : ¬ S a) (hx : ¬ S x) (hv : ∀ g, v.ownBlock = some g → ¬ S g) : Both w' b a x v l :=
  ⟨h.m.keep k hb ha, h.r.keep k hx hv, h.ax, h.bx, h.va, h.vb⟩
theorem Both.below {w w' : World} {b a x : Nat} {v : Value} {l : List Int} (h : Both w b a x v l) (k : Below w.heap.size w w') : Both w' b a x v l :=
  h.keep (S := fun _ => False) (Keep.of_below k) (fun e => e) (fun e => e) (fun e => e) (fun _ _ e => e)

def step (l : List Int) (k i : Int) : List Int :=
  if k = 0 then Fm.use l i else if k = 4 ∨ k = 5 then Fm.leave l i else if k = 6 then Fm.turn 0 1 l else if k = 7 then Fm.turn 1 0 l else Fm.take l

/-- what is left behind a call of both -/
def Next (w w' : World) (b a x : Nat) (v : Value) (l : List Int) : Prop :=
  ∃ v', Both w' b a x v' l ∧ Keep (fun k => k = a ∨ k = x) w w' ∧ (v' = v ∨ ∀ g, v'.ownBlock = some g → w.heap.size ≤ g)

/-- first the map, then the document's -/
theorem next_mr {w w1 w2 : World} {b a x : Nat} {v v' : Value} {l l' : List Int} (h : Both w b a x v l) (h1 : Fm.At w1 b a l') (k1 : Keep (· = a) w w1) (h2 : Fr.At w2 x v' l') (k2 : Keep (· = x) w1 w2)
    (hv : v' = v ∨ ∀ g, v'.ownBlock = some g → w1.heap.size ≤ g) : Next w w2 b a x v l' := by
  have hsz := k1.size
  refine ⟨v', ⟨h1.keep k2 h.bx h.ax, h2, h.ax, h.bx, ?_, ?_⟩, (k1.mono (fun _ _ e => Or.inl e)).trans (k2.mono (fun _ _ e => Or.inr e)), ?_⟩
  · rcases hv with rfl | hv
    · exact h.va
    · intro e; have := hv a e; have := lt_of_block h1.list; omega
  · rcases hv with rfl | hv
    · exact h.vb
    · intro e; have := hv b e; have := lt_of_block h1.head; omega
  · rcases hv with rfl | hv
    · exact Or.inl rfl
    · exact Or.inr fun g hg => Nat.le_trans hsz (hv g hg)
/-- first the document's, then the map -/
theorem next_rm {w w1 w2 : World} {b a x : Nat} {v v' : Value} {l l' : List Int} (h : Both w b a x v l) (h1 : Fr.At w1 x v' l') (k1 : Keep (· = x) w w1) (hv : v' = v ∨ ∀ g, v'.ownBlock = some g → w.heap.size ≤ g)
    (h2 : Fm.At w2 b a l') (k2 : Keep (· = a) w1 w2) : Next w w2 b a x v l' := by
  have va : v'.ownBlock ≠ some a := by
    rcases hv with rfl | hv
    · exact h.va
    · intro e; have := hv a e; have := lt_of_block h.m.list; omega
  have vb : v'.ownBlock ≠ some b := by
    rcases hv with rfl | hv
    · exact h.vb
    · intro e; have := hv b e; have := lt_of_block h.m.head; omega
  exact ⟨v', ⟨h2, h1.keep k2 h.ax.symm (fun g hg e => va (by rw [hg, e])), h.ax, h.bx, va, vb⟩, (k1.mono (fun _ _ e => Or.inr e)).trans (k2.mono (fun _ _ e => Or.inl e)), hv⟩
theorem next_from {w0 w w' : World} {b a x : Nat} {v : Value} {l' : List Int} (k : Below w0.heap.size w0 w) (h : Next w w' b a x v l') : Next w0 w' b a x v l' := by
  obtain ⟨v', h1, h2, h3⟩ := h
  exact ⟨v', h1, (Keep.of_below k).trans h2, h3.imp (fun e => e) (fun e g hg => Nat.le_trans k.size (e g hg))⟩

set_option maxHeartbeats 1000000 in
theorem do_use (b a x : Nat) (v : Value) (l : List Int) (i : Int) (w : World) (h : Both w b a x v l) :
    Calls Try.prog 22 #[.pointer (some ⟨b, 0, none⟩), .pointer (some ⟨x, 0, none⟩), .agg #[.int .i64 0, .int .i64 i]] w fun e w' =>
      e = .returned (.bool true) ∧ Next w w' b a x v (Fm.use l i) := by
  have k0 : Below w.heap.size w (w.alloc (.cells #[.int .i64 0, .int .i64 i] 32)).drew := ((Below.refl _ _).alloc (Nat.le_refl _) _).drew
  have B0 := h.below k0
  have hb0 := heap_alloc_last w (.cells #[.int .i64 0, .int .i64 i] 32)
  have ha := lt_of_block h.m.list
  have hx := lt_of_block h.r.head
  go_enter Try.func22, Try.ntmps22
  go_wp2
  go_region_with (first
    | (go_at_call 20; refine (Fm.use_any b a l i _ (by first | exact B0.m | exact m1)).mono ?_; rintro e w1 ⟨rfl, hA, hK⟩; try (have r1 := B0.r.keep hK B0.ax.symm (fun g hg e => B0.va (by rw [hg, e])); have c1 := cell_at (i := 1) (hK.at (k := w.heap.size) hb0 (by omega)) rfl))
    | (go_at_call 27; refine (Fr.use_any x v l i _ (by first | exact B0.r | exact r1)).mono ?_; rintro e w2 ⟨rfl, v', hB, hL, hv⟩; try (have m1 := B0.m.keep hL B0.bx B0.ax; have c2 := cell_at (i := 1) (hL.at (k := w.heap.size) hb0 (by omega)) rfl)))
  all_goals go_wp2
  all_goals go_ret
  all_goals first | exact ⟨rfl, next_from k0 (next_mr B0 hA hK hB hL hv)⟩ | exact ⟨rfl, next_from k0 (next_rm B0 hB hL hv hA hK)⟩

set_option maxHeartbeats 1000000 in
theorem do_leave (b a x : Nat) (v : Value) (l : List Int) (k i : Int) (w : World) (h : Both w b a x v l) (hk : k = 4 ∨ k = 5) :
    Calls Try.prog 22 #[.pointer (some ⟨b, 0, none⟩), .pointer (some ⟨x, 0, none⟩), .agg #[.int .i64 k, .int .i64 i]] w fun e w' =>
      e = .returned (.bool true) ∧ Next w w' b a x v (Fm.leave l i) := by
  have k0 : Below w.heap.size w (w.alloc (.cells #[.int .i64 k, .int .i64 i] 32)).drew := ((Below.refl _ _).alloc (Nat.le_refl _) _).drew
  have B0 := h.below k0
  have hb0 := heap_alloc_last w (.cells #[.int .i64 k, .int .i64 i] 32)
  have ha := lt_of_block h.m.list
  have hx := lt_of_block h.r.head
  rcases hk with rfl | rfl
  all_goals
    go_enter Try.func22, Try.ntmps22
    go_wp2
    go_region_with (first
      | (go_at_call 12; refine (Fm.leave_any b a l i _ (by first | exact B0.m | exact m1)).mono ?_; rintro e w1 ⟨rfl, hA, hK⟩; try (have r1 := B0.r.keep hK B0.ax.symm (fun g hg e => B0.va (by rw [hg, e])); have c1 := cell_at (i := 1) (hK.at (k := w.heap.size) hb0 (by omega)) rfl))
      | (go_at_call 28; refine (Fr.leave_any x v l i _ (by first | exact B0.r | exact r1)).mono ?_; rintro e w2 ⟨rfl, v', hB, hL, hv⟩; try (have m1 := B0.m.keep hL B0.bx B0.ax; have c2 := cell_at (i := 1) (hL.at (k := w.heap.size) hb0 (by omega)) rfl)))
    all_goals go_wp2
    all_goals go_ret
    all_goals first | exact ⟨rfl, next_from k0 (next_mr B0 hA hK hB hL hv)⟩ | exact ⟨rfl, next_from k0 (next_rm B0 hB hL hv hA hK)⟩

set_option maxHeartbeats 1000000 in
theorem do_turn (b a x : Nat) (v : Value) (l : List Int) (i : Int) (w : World) (h : Both w b a x v l) :
    Calls Try.prog 22 #[.pointer (some ⟨b, 0, none⟩), .pointer (some ⟨x, 0, none⟩), .agg #[.int .i64 6, .int .i64 i]] w fun e w' =>
      e = .returned (.bool true) ∧ Next w w' b a x v (Fm.turn 0 1 l) := by
  have k0 : Below w.heap.size w (w.alloc (.cells #[.int .i64 6, .int .i64 i] 32)) := (Below.refl _ _).alloc (Nat.le_refl _) _
  have B0 := h.below k0
  go_enter Try.func22, Try.ntmps22
  go_wp2_with (first
    | (go_at_call 29; refine (Fr.turn_any x v l 1 0 _ B0.r).mono ?_; rintro e w2 ⟨rfl, v', hB, hL, hv⟩; have m1 := B0.m.keep hL B0.bx B0.ax)
    | (go_at_call 11; refine (Fm.commit_any b a l _ m1).mono ?_; rintro e w1 ⟨rfl, hA, hK⟩))
  go_ret
  exact ⟨rfl, next_from k0 (next_rm B0 hB hL (Or.inr hv) hA hK)⟩

set_option maxHeartbeats 1000000 in
theorem do_back (b a x : Nat) (v : Value) (l : List Int) (i : Int) (w : World) (h : Both w b a x v l) :
    Calls Try.prog 22 #[.pointer (some ⟨b, 0, none⟩), .pointer (some ⟨x, 0, none⟩), .agg #[.int .i64 7, .int .i64 i]] w fun e w' =>
      e = .returned (.bool true) ∧ Next w w' b a x v (Fm.turn 1 0 l) := by
  have k0 : Below w.heap.size w (w.alloc (.cells #[.int .i64 7, .int .i64 i] 32)) := (Below.refl _ _).alloc (Nat.le_refl _) _
  have B0 := h.below k0
  go_enter Try.func22, Try.ntmps22
  go_wp2_with (first
    | (go_at_call 29; refine (Fr.turn_any x v l 0 1 _ B0.r).mono ?_; rintro e w2 ⟨rfl, v', hB, hL, hv⟩; have m1 := B0.m.keep hL B0.bx B0.ax)
    | (go_at_call 13; refine (Fm.abort_any b a l _ m1).mono ?_; rintro e w1 ⟨rfl, hA, hK⟩))
  go_ret
  exact ⟨rfl, next_from k0 (next_rm B0 hB hL (Or.inr hv) hA hK)⟩

set_option maxHeartbeats 1000000 in
theorem do_take (b a x : Nat) (v : Value) (l : List Int) (k i : Int) (w : World) (h : Both w b a x v l) (n0 : (k == 0) = false) (n4 : (k == 4) = false) (n5 : (k == 5) = false) (n6 : (k == 6) = false) (n7 : (k == 7) = false) :
    Calls Try.prog 22 #[.pointer (some ⟨b, 0, none⟩), .pointer (some ⟨x, 0, none⟩), .agg #[.int .i64 k, .int .i64 i]] w fun e w' =>
      e = .returned (.bool true) ∧ Next w w' b a x v (Fm.take l) := by
  have k0 : Below w.heap.size w (w.alloc (.cells #[.int .i64 k, .int .i64 i] 32)) := (Below.refl _ _).alloc (Nat.le_refl _) _
  have B0 := h.below k0
  go_enter Try.func22, Try.ntmps22
  go_wp2_with (first
    | (go_at_call 14; refine (Fm.take_any b a l _ B0.m).mono ?_; rintro e w1 ⟨rfl, hA, hK⟩; have r1 := B0.r.keep hK B0.ax.symm (fun g hg e => B0.va (by rw [hg, e])))
    | (go_at_call 30; refine (Fr.take_any x v l _ r1).mono ?_; rintro e w2 ⟨rfl, v', hB, hL, hv⟩))
  go_ret
  exact ⟨rfl, next_from k0 (next_mr B0 hA hK hB hL hv)⟩

theorem do_any (b a x : Nat) (v : Value) (l : List Int) (k i : Int) (w : World) (h : Both w b a x v l) :
    Calls Try.prog 22 #[.pointer (some ⟨b, 0, none⟩), .pointer (some ⟨x, 0, none⟩), .agg #[.int .i64 k, .int .i64 i]] w fun e w' =>
      e = .returned (.bool true) ∧ Next w w' b a x v (step l k i) := by
  unfold step
  by_cases h0 : k = 0
  · subst h0; rw [if_pos rfl]; exact do_use b a x v l i w h
  rw [if_neg h0]
  by_cases h4 : k = 4 ∨ k = 5
  · rw [if_pos h4]; exact do_leave b a x v l k i w h h4
  rw [if_neg h4]
  by_cases h6 : k = 6
  · subst h6; rw [if_pos rfl]; exact do_turn b a x v l i w h
  rw [if_neg h6]
  by_cases h7 : k = 7
  · subst h7; rw [if_pos rfl]; exact do_back b a x v l i w h
  rw [if_neg h7]
  exact do_take b a x v l k i w h (beq_eq_false_iff_ne.2 h0) (beq_eq_false_iff_ne.2 fun e => h4 (Or.inl e)) (beq_eq_false_iff_ne.2 fun e => h4 (Or.inr e)) (beq_eq_false_iff_ne.2 h6) (beq_eq_false_iff_ne.2 h7)

end Fl
end Go.Proofs.Ytmkckichkmgemaa
