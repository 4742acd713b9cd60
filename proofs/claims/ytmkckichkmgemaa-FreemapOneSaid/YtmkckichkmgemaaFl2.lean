/- Both maps behind some calls ('made'), and what must come at any rate ('awake'), of layer 12. -/
import Derived.Test.YtmkckichkmgemaaFl
namespace Go.Proofs.Ytmkckichkmgemaa
open Go.RowKit
namespace Fl

/-- a list of calls in memory: each is two numbers -/
def Acts (w : World) (v : Value) (acts : List (Int × Int)) : Prop :=
  ∃ o c, v = .slice o acts.length c ∧ ∀ j, j < acts.length → ∃ g off, o = some ⟨g, off, none⟩ ∧
    w.cell? ⟨g, off + j * 2, none⟩ = some (.int .i64 (acts.getD j (0, 0)).1) ∧ w.cell? ⟨g, off + j * 2 + 1, none⟩ = some (.int .i64 (acts.getD j (0, 0)).2)

theorem block_of_cell {w : World} {a : Addr} {v : Value} (h : w.cell? a = some v) : a.block < w.heap.size := World.block_lt_of_cell? w a h
theorem Acts.below {w w' : World} {v : Value} {acts : List (Int × Int)} (h : Acts w v acts) (k : Below w.heap.size w w') : Acts w' v acts := by
  obtain ⟨o, c, hv, hc⟩ := h
  refine ⟨o, c, hv, fun j hj => ?_⟩
  obtain ⟨g, off, ho, h1, h2⟩ := hc j hj
  have hg := block_of_cell h1
  exact ⟨g, off, ho, (k.cell (p := ⟨g, off + j * 2, none⟩) hg).trans h1, (k.cell (p := ⟨g, off + j * 2 + 1, none⟩) hg).trans h2⟩

def steps (l : List Int) (acts : List (Int × Int)) : List Int := acts.foldl (fun l p => step l p.1 p.2) l
theorem steps_snoc (l : List Int) {acts : List (Int × Int)} {k : Nat} (h : k < acts.length) :
    steps l (acts.take (k + 1)) = step (steps l (acts.take k)) (acts.getD k (0, 0)).1 (acts.getD k (0, 0)).2 := by
  unfold steps
  rw [List.take_succ_eq_append_getElem h, List.foldl_append, List.getD_eq_getElem?_getD, List.getElem?_eq_getElem h]
  rfl

set_option maxHeartbeats 400000 in
theorem made_no (n : Int) (v : Value) (w : World) (h : n < 0 ∨ 1024 < n) :
    Calls Try.prog 8 #[.int .i64 n, v] w fun e w' => e = .returned (.tuple #[.pointer none, .pointer none, .bool true]) ∧ w = w' := by
  have hn := h
  rcases h with h | h
  · go_enter Try.func8, Try.ntmps8
    go_wp2_with (go_at_call 21; refine (Fm.new_no n _ hn).mono ?_; rintro e w' ⟨rfl, rfl⟩)
    go_ret3
    exact ⟨rfl, rfl⟩
  · have h0 : ¬ n < 0 := by omega
    go_enter Try.func8, Try.ntmps8
    go_wp2_with (go_at_call 21; refine (Fm.new_no n _ hn).mono ?_; rintro e w' ⟨rfl, rfl⟩)
    go_ret3
    exact ⟨rfl, rfl⟩

/-- what is behind 'made', and lies in new memory -/
def Made (w w' : World) (b x : Nat) (l : List Int) : Prop :=
  ∃ a v, Both w' b a x v l ∧ Below w.heap.size w w' ∧ w.heap.size ≤ b ∧ w.heap.size ≤ a ∧ w.heap.size ≤ x ∧ ∀ g, v.ownBlock = some g → w.heap.size ≤ g

set_option maxHeartbeats 1000000 in
set_option maxRecDepth 100000 in
theorem made_yes (n : Nat) (s : Value) (acts : List (Int × Int)) (w : World) (h : n ≤ 1024) (hs : Acts w s acts) :
    Calls Try.prog 8 #[.int .i64 n, s] w fun e w' =>
      ∃ b x, e = .returned (.tuple #[.pointer (some ⟨b, 0, none⟩), .pointer (some ⟨x, 0, none⟩), .bool true]) ∧ Made w w' b x (steps (Fm.zeros n) (acts.take 60)) := by
  obtain ⟨i0, hi, hz0, hz1, hz2⟩ := info_parts Try.infoInt
  have hmk := fun w : World => run_make (P := Try.prog) w 28 3 i0 _ Try.underlying28 hi hz0 .i64 .i64 n n (by omega) (by omega) (by rw [hz2]; omega) (by omega)
  simp only [Int.toNat_natCast, hz1, Fm.made_zeros] at hmk
  obtain ⟨o, c, rfl, hsc⟩ := hs
  go_enter Try.func8, Try.ntmps8
  go_wp2_with (go_at_call 21; refine (Fm.new_yes n _ h).mono ?_; rintro e w1 ⟨rfl, hA, hB⟩)
  have hsz : w.heap.size + 1 < w1.heap.size := lt_of_block hA.head
  have b2 : Below w1.heap.size w1 ((w1.alloc (.cells (ints (Fm.zeros n)) 3)).alloc (.cells #[.slice (some ⟨w1.heap.size, 0, none⟩) n n] 42)) := ((Below.refl _ _).alloc (Nat.le_refl _) _).alloc (by simp) _
  have hA2 := hA.below b2
  have hz := Fm.zeros_length n
  have hX : Fr.At ((w1.alloc (.cells (ints (Fm.zeros n)) 3)).alloc (.cells #[.slice (some ⟨w1.heap.size, 0, none⟩) n n] 42)) (w1.heap.size + 1) (.slice (some ⟨w1.heap.size, 0, none⟩) n n) (Fm.zeros n) := by
    refine ⟨by simpa using heap_alloc_last (w1.alloc (.cells (ints (Fm.zeros n)) 3)) (.cells #[.slice (some ⟨w1.heap.size, 0, none⟩) n n] 42),
      ⟨by rw [Fr.ivals_length, Nat.mul_one], Or.inr ⟨w1.heap.size, n, ints (Fm.zeros n), by rw [hz], Nat.zero_le _, heap_alloc_lt (heap_alloc_last _ _) _, by omega, by unfold maxLen; omega, by rw [ints_size]; omega, ?_⟩⟩, by omega, by simp [Value.ownBlock]⟩
    rw [Nat.mul_one]
    exact List.take_of_length_le (by simp [ints])
  have hBoth : Both ((w1.alloc (.cells (ints (Fm.zeros n)) 3)).alloc (.cells #[.slice (some ⟨w1.heap.size, 0, none⟩) n n] 42)) (w.heap.size + 1) w.heap.size (w1.heap.size + 1) (.slice (some ⟨w1.heap.size, 0, none⟩) n n) (Fm.zeros n) :=
    ⟨hA2, hX, by omega, by omega, by simp [Value.ownBlock]; omega, by simp [Value.ownBlock]; omega⟩
  have hB2 := Fm.Below.next hB b2
  clear hX hA2 b2 hA hz hB hmk
  go_loopw [10] (fun i wr => ∃ (k : Nat) (v : Value), i = .int .i64 k ∧ k ≤ acts.length ∧ k ≤ 60 ∧ Both wr (w.heap.size + 1) w.heap.size (w1.heap.size + 1) v (steps (Fm.zeros n) (acts.take k)) ∧ Below w.heap.size w wr ∧ ∀ g, v.ownBlock = some g → w.heap.size ≤ g) (fun i _ => 60 - (intOf i).toNat)
  case atStart => exact ⟨0, _, rfl, Nat.zero_le _, Nat.zero_le _, hBoth, hB2, by intro g hg; simp [Value.ownBlock] at hg; omega⟩
  case round =>
    obtain ⟨k, v, rfl, hk, hk6, hbo, hbel, hown⟩ := hrel
    clear hBoth hB2
    by_cases hlt : k < acts.length
    · by_cases h60 : k < 60
      · obtain ⟨g, off, rfl, h1, h2⟩ := hsc k hlt
        have hg := block_of_cell h1
        have hc1 := (hbel.cell (p := ⟨g, off + k * 2, none⟩) hg).trans h1
        have hc2 := (hbel.cell (p := ⟨g, off + k * 2 + 1, none⟩) hg).trans h2
        have HS := Lib.hid (steps_snoc (Fm.zeros n) hlt)
        generalize (acts.getD k (0, 0)).1 = p at hc1 HS h1
        generalize (acts.getD k (0, 0)).2 = q at hc2 HS h2
        generalize steps (Fm.zeros n) (acts.take k) = l at hbo HS
        go_wp2_with (go_at_call 22; refine (do_any _ _ _ v l p q _ hbo).mono ?_; rintro e w2 ⟨rfl, v', hbo', hkk, hvv⟩)
        have hsz2 := hbel.size
        have hbel' : Below w.heap.size w w2 := hbel.trans (hkk.below (by rintro i (rfl | rfl) <;> omega) hsz2)
        have hown' : ∀ g, v'.ownBlock = some g → w.heap.size ≤ g := by
          rcases hvv with rfl | hvv
          · exact hown
          · exact fun g hg => Nat.le_trans hsz2 (hvv g hg)
        clear hkk hvv hbel hbo
        go_roundw
        case rel => exact ⟨k + 1, v', by go_num, by omega, by omega, by rw [HS.out]; exact hbo', hbel', hown'⟩
        case measure => simp [intOf]; omega
      · have hkl : Hid (k = 60) := by show _ = _; omega
        go_wp2
        go_ret3
        refine ⟨_, _, rfl, _, v, by rw [hkl.out] at hbo; exact hbo, hbel, by omega, by omega, by omega, hown⟩
    · have hkl : Hid (acts.take 60 = acts.take k) := by show _ = _; rw [List.take_of_length_le (by omega), List.take_of_length_le (by omega)]
      go_wp2
      go_ret3
      refine ⟨_, _, rfl, _, v, by rw [hkl.out]; exact hbo, hbel, by omega, by omega, by omega, hown⟩

end Fl
end Go.Proofs.Ytmkckichkmgemaa
