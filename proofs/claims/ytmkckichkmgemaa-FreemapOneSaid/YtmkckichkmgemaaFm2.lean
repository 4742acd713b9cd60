/- What Commit, Abort, List, Count, Free, Fresh and New of a map of pages do. -/
import Derived.Test.YtmkckichkmgemaaFm
namespace Go.Proofs.Ytmkckichkmgemaa
open Go.RowKit
namespace Fm

def turn1 (leaving fresh x : Int) : Int := if x = 3 then leaving else if x = 2 then fresh else x
def turn (leaving fresh : Int) (l : List Int) : List Int := l.map (turn1 leaving fresh)
def turnTo (leaving fresh : Int) (l : List Int) (k : Nat) : List Int := (l.take k).map (turn1 leaving fresh) ++ l.drop k
theorem turnTo_length (p q : Int) (l : List Int) (k : Nat) : (turnTo p q l k).length = l.length := by
  simp [turnTo]; omega
theorem turnTo_get (p q : Int) (l : List Int) {k : Nat} (h : k < l.length) : (turnTo p q l k).getD k 0 = l.getD k 0 := by
  simp [turnTo, List.getD, List.getElem?_append, Nat.min_eq_left (Nat.le_of_lt h)]
theorem turnTo_succ (p q : Int) (l : List Int) {k : Nat} (h : k < l.length) : (turnTo p q l k).set k (turn1 p q (l.getD k 0)) = turnTo p q l (k + 1) := by
  unfold turnTo
  rw [List.set_append_right _ _ (by simp; omega)]
  have e1 : l.drop k = l.getD k 0 :: l.drop (k + 1) := by rw [List.drop_eq_getElem_cons h]; simp [List.getD, h]
  have e2 : l.take (k + 1) = l.take k ++ [l.getD k 0] := by rw [List.take_succ_eq_append_getElem h]; simp [List.getD, h]
  rw [e1, e2]
  simp [Nat.min_eq_left (Nat.le_of_lt h)]
theorem turnTo_same (p q : Int) (l : List Int) {k : Nat} (h : k < l.length) (h3 : l.getD k 0 ≠ 3) (h2 : l.getD k 0 ≠ 2) : turnTo p q l k = turnTo p q l (k + 1) := by
  rw [← turnTo_succ p q l h, turn1, if_neg h3, if_neg h2, ← turnTo_get p q l h]
  apply List.ext_getElem?
  intro i
  rw [List.getElem?_set]
  have := turnTo_length p q l k
  split
  · subst i
    rw [if_pos (by omega)]
    simp [List.getD, show k < (turnTo p q l k).length by omega]
  · rfl

set_option maxHeartbeats 400000 in
theorem turn_nil (p q : Int) (w : World) :
    Calls Try.prog 23 #[.pointer none, .int .i64 p, .int .i64 q] w fun e w' => e = .returned (.bool false) ∧ w = w' := by
  go_enter Try.func23, Try.ntmps23
  go_wp2
  go_ret
  exact ⟨rfl, rfl⟩

set_option maxHeartbeats 800000 in
theorem turn_any (b a : Nat) (l : List Int) (p q : Int) (w : World) (h : At w b a l) :
    Calls Try.prog 23 #[.pointer (some ⟨b, 0, none⟩), .int .i64 p, .int .i64 q] w fun e w' =>
      e = .returned (.bool true) ∧ At w' b a (turn p q l) ∧ Keep (· = a) w w' := by
  have hs := h.small
  have hc := cell_at (i := 0) h.head rfl
  go_enter Try.func23, Try.ntmps23
  go_wp2
  go_loopw [7, 8, 16] (fun _ _ i wr => ∃ k : Nat, k ≤ l.length ∧ i = .int .i64 k ∧ At wr b a (turnTo p q l k) ∧ Keep (· = a) w wr) (fun _ _ i _ => l.length - (intOf i).toNat)
  case atStart => exact ⟨0, Nat.zero_le _, rfl, by simpa [turnTo] using h, Keep.refl _ _⟩
  case round =>
    obtain ⟨k, hk, rfl, hat, hkeep⟩ := hrel
    have HL := Lib.hid (turnTo_length p q l k)
    have hc := cell_at (i := 0) hat.head rfl
    rw [HL.out] at hc
    by_cases hlt : k < l.length
    · have hx := hat.cell (i := k) (by rw [HL.out]; exact hlt)
      have hf := free_at k hat.list
      rw [turnTo_get p q l hlt] at hx
      have HS := Lib.hid (turnTo_succ p q l hlt)
      by_cases h3 : l.getD k 0 = 3
      · have HT := Lib.hid (show turn1 p q (l.getD k 0) = p by rw [turn1, if_pos h3])
        rw [h3] at hx
        clear h3
        go_wp2
        go_roundw
        case rel => exact ⟨k + 1, by omega, by go_num, by rw [← HS.out, HT.out]; exact hat.set k p, hkeep.trans (keep_set _ _ _ _)⟩
        case measure => simp [intOf]; omega
      · by_cases h2 : l.getD k 0 = 2
        · have HT := Lib.hid (show turn1 p q (l.getD k 0) = q by rw [turn1, if_neg h3, if_pos h2])
          rw [h2] at hx
          clear h3 h2
          go_wp2
          go_roundw
          case rel => exact ⟨k + 1, by omega, by go_num, by rw [← HS.out, HT.out]; exact hat.set k q, hkeep.trans (keep_set _ _ _ _)⟩
          case measure => simp [intOf]; omega
        · have HT := Lib.hid (turnTo_same p q l hlt h3 h2)
          have b2 : (l.getD k 0 == 2) = false := by rw [beq_eq_false_iff_ne]; exact h2
          have b3 : (l.getD k 0 == 3) = false := by rw [beq_eq_false_iff_ne]; exact h3
          clear h2 h3
          generalize l.getD k 0 = x at hx b2 b3
          go_wp2
          go_roundw
          case rel => exact ⟨k + 1, by omega, by go_num, by rw [← HT.out]; exact hat, hkeep⟩
          case measure => simp [intOf]; omega
    · have hkl : Hid (k = l.length) := by show _ = _; omega
      go_wp2
      go_ret
      exact ⟨rfl, by rw [show turn p q l = turnTo p q l k by rw [hkl.out]; simp [turn, turnTo]]; exact hat, hkeep⟩

set_option maxHeartbeats 400000 in
theorem commit_any (b a : Nat) (l : List Int) (w : World) (h : At w b a l) :
    Calls Try.prog 11 #[.pointer (some ⟨b, 0, none⟩)] w fun e w' =>
      e = .returned (.bool true) ∧ At w' b a (turn 0 1 l) ∧ Keep (· = a) w w' := by
  go_enter Try.func11, Try.ntmps11
  go_wp2_with (go_at_call 23; refine (turn_any b a l 0 1 _ h).mono ?_; rintro e w' ⟨rfl, hat, hk⟩)
  go_ret
  exact ⟨rfl, hat, hk⟩
set_option maxHeartbeats 400000 in
theorem abort_any (b a : Nat) (l : List Int) (w : World) (h : At w b a l) :
    Calls Try.prog 13 #[.pointer (some ⟨b, 0, none⟩)] w fun e w' =>
      e = .returned (.bool true) ∧ At w' b a (turn 1 0 l) ∧ Keep (· = a) w w' := by
  go_enter Try.func13, Try.ntmps13
  go_wp2_with (go_at_call 23; refine (turn_any b a l 1 0 _ h).mono ?_; rintro e w' ⟨rfl, hat, hk⟩)
  go_ret
  exact ⟨rfl, hat, hk⟩
set_option maxHeartbeats 400000 in
theorem commit_nil (w : World) :
    Calls Try.prog 11 #[.pointer none] w fun e w' => e = .returned (.bool false) ∧ w = w' := by
  go_enter Try.func11, Try.ntmps11
  go_wp2_with (go_at_call 23; refine (turn_nil 0 1 _).mono ?_; rintro e w' ⟨rfl, rfl⟩)
  go_ret
  exact ⟨rfl, rfl⟩
set_option maxHeartbeats 400000 in
theorem abort_nil (w : World) :
    Calls Try.prog 13 #[.pointer none] w fun e w' => e = .returned (.bool false) ∧ w = w' := by
  go_enter Try.func13, Try.ntmps13
  go_wp2_with (go_at_call 23; refine (turn_nil 1 0 _).mono ?_; rintro e w' ⟨rfl, rfl⟩)
  go_ret
  exact ⟨rfl, rfl⟩

set_option maxHeartbeats 400000 in
theorem fresh_nil (i : Int) (w : World) :
    Calls Try.prog 19 #[.pointer none, .int .i64 i] w fun e w' => e = .returned (.bool false) ∧ w = w' := by
  go_enter Try.func19, Try.ntmps19
  go_wp2_with (go_at_call 24; refine (at_nil i _).mono ?_; rintro e w' ⟨rfl, rfl⟩)
  go_ret
  exact ⟨rfl, rfl⟩

def fresh (l : List Int) (i : Int) : Bool := has l i && decide (l.getD i.toNat 0 = 2)
set_option maxHeartbeats 400000 in
theorem fresh_any (b a : Nat) (l : List Int) (i : Int) (w : World) (h : At w b a l) :
    Calls Try.prog 19 #[.pointer (some ⟨b, 0, none⟩), .int .i64 i] w fun e w' => e = .returned (.bool (fresh l i)) ∧ w = w' := by
  have hs := h.small
  have hc := cell_at (i := 0) h.head rfl
  cases hh : has l i with
  | false =>
    have H := Lib.hid hh; clear hh
    go_enter Try.func19, Try.ntmps19
    go_wp2_with (go_at_call 24; refine (at_any b a l i _ h).mono ?_; rintro e w' ⟨rfl, rfl⟩; rw [show atE l i = 3 by simp [atE, H.out]])
    go_ret
    exact ⟨retb (by simp [fresh, H.out]), rfl⟩
  | true =>
    have H := Lib.hid hh
    obtain ⟨h0, h1⟩ := has_iff.1 hh
    clear hh
    obtain ⟨n, rfl⟩ := Int.eq_ofNat_of_zero_le h0
    have hn : n < l.length := by omega
    have hd := h.cell hn
    have H0 := Lib.hid (show atE l n = 0 by simp [atE, H.out])
    have H1 := Lib.hid (show fresh l n = (l.getD n 0 == 2) by simp only [fresh, H.out, Int.toNat_natCast, Bool.true_and]; rfl)
    generalize l.getD n 0 = x at hd H1
    go_enter Try.func19, Try.ntmps19
    go_wp2_with (go_at_call 24; refine (at_any b a l n _ h).mono ?_; rintro e w' ⟨rfl, rfl⟩; rw [H0.out])
    go_ret
    exact ⟨retb H1.out, rfl⟩

end Fm
end Go.Proofs.Ytmkckichkmgemaa
