/- What each call on a map of pages does: the block of the map's list holds the kinds, as numbers, and each call turns the list as its Lean function of the same name says. -/
import Derived.Test.YtmkckichkmgemaaBase
namespace Go.Proofs.Ytmkckichkmgemaa
open Go.RowKit
namespace Fm

/-- a map at block b, its list in block a -/
structure At (w : World) (b a : Nat) (l : List Int) : Prop where
  head : w.heap[b]? = some (.cells #[.slice (some ⟨a, 0, none⟩) l.length l.length] 50 (0, 0))
  list : w.heap[a]? = some (.cells (ints l) 3 (0, 0))
  small : l.length ≤ 1024
  apart : a ≠ b

theorem At.keep {w w' : World} {b a : Nat} {l : List Int} {S : Nat → Prop} (h : At w b a l) (k : Keep S w w') (hb : ¬ S b) (ha : ¬ S a) : At w' b a l :=
  ⟨k.at h.head hb, k.at h.list ha, h.small, h.apart⟩

def has (l : List Int) (i : Int) : Bool := decide (0 ≤ i ∧ i < l.length)
def atE (l : List Int) (i : Int) : Int := if has l i then 0 else 3
def useE (l : List Int) (i : Int) : Int := if has l i then (if l.getD i.toNat 0 = 0 then 0 else 10) else 3
def use (l : List Int) (i : Int) : List Int := if has l i then (if l.getD i.toNat 0 = 0 then l.set i.toNat 1 else l) else l
def leaveE (l : List Int) (i : Int) : Int := if has l i then (if l.getD i.toNat 0 = 2 ∨ l.getD i.toNat 0 = 1 then 0 else 9) else 3
def leave (l : List Int) (i : Int) : List Int := if has l i then (if l.getD i.toNat 0 = 2 then l.set i.toNat 0 else if l.getD i.toNat 0 = 1 then l.set i.toNat 3 else l) else l

set_option maxHeartbeats 400000 in
theorem at_nil (i : Int) (w : World) :
    Calls Try.prog 24 #[.pointer none, .int .i64 i] w fun e w' => e = .returned (.int .i64 1) ∧ w = w' := by
  go_enter Try.func24, Try.ntmps24
  go_wp2
  go_ret
  exact ⟨rfl, rfl⟩

set_option maxHeartbeats 400000 in
theorem at_any (b a : Nat) (l : List Int) (i : Int) (w : World) (h : At w b a l) :
    Calls Try.prog 24 #[.pointer (some ⟨b, 0, none⟩), .int .i64 i] w fun e w' => e = .returned (.int .i64 (atE l i)) ∧ w = w' := by
  have hs := h.small
  have hc := cell_at (i := 0) h.head rfl
  by_cases h0 : 0 ≤ i
  · by_cases h1 : i < l.length
    · have he : atE l i = 0 := by simp [atE, has, h0, h1]
      rw [he]
      go_enter Try.func24, Try.ntmps24
      go_wp2
      go_ret
      exact ⟨rfl, rfl⟩
    · have he : atE l i = 3 := by simp [atE, has, h1]
      rw [he]
      go_enter Try.func24, Try.ntmps24
      go_wp2
      go_ret
      exact ⟨rfl, rfl⟩
  · have he : atE l i = 3 := by simp [atE, has, h0]
    rw [he]
    go_enter Try.func24, Try.ntmps24
    go_wp2
    go_ret
    exact ⟨rfl, rfl⟩

theorem has_iff {l : List Int} {i : Int} : has l i = true ↔ 0 ≤ i ∧ i < l.length := by simp [has]
theorem At.cell {w : World} {b a : Nat} {l : List Int} (h : At w b a l) {i : Nat} (hi : i < l.length) : w.cell? ⟨a, i, none⟩ = some (.int .i64 (l.getD i 0)) :=
  cell_at h.list (ints_get hi)
theorem At.set {w : World} {b a : Nat} {l : List Int} (h : At w b a l) (i : Nat) (n : Int) : At (w.setCell ⟨a, i, none⟩ (.int .i64 n)) b a (l.set i n) :=
  ⟨by rw [setCell_other i h.apart.symm, h.head, List.length_set], by rw [setCell_block i h.list, ints_set], by rw [List.length_set]; exact h.small, h.apart⟩

set_option maxHeartbeats 400000 in
theorem use_any (b a : Nat) (l : List Int) (i : Int) (w : World) (h : At w b a l) :
    Calls Try.prog 20 #[.pointer (some ⟨b, 0, none⟩), .int .i64 i] w fun e w' =>
      e = .returned (.int .i64 (useE l i)) ∧ At w' b a (use l i) ∧ Keep (· = a) w w' := by
  have hs := h.small
  have hc := cell_at (i := 0) h.head rfl
  cases hh : has l i with
  | false =>
    have H := Lib.hid hh; clear hh
    go_enter Try.func20, Try.ntmps20
    go_wp2_with (go_at_call 24; refine (at_any b a l i _ h).mono ?_; rintro e w' ⟨rfl, rfl⟩; rw [show atE l i = 3 by simp [atE, H.out]])
    go_ret
    rw [show useE l i = 3 by simp [useE, H.out], show use l i = l by simp [use, H.out]]
    exact ⟨rfl, h, Keep.refl _ _⟩
  | true =>
    have H := Lib.hid hh
    obtain ⟨h0, h1⟩ := has_iff.1 hh
    clear hh
    obtain ⟨n, rfl⟩ := Int.eq_ofNat_of_zero_le h0
    have hn : n < l.length := by omega
    have hd := h.cell hn
    have hf := free_at n h.list
    by_cases hz : l.getD n 0 = 0
    · have hz' := Lib.hid hz
      rw [hz] at hd
      clear hz
      go_enter Try.func20, Try.ntmps20
      go_wp2_with (go_at_call 24; refine (at_any b a l n _ h).mono ?_; rintro e w' ⟨rfl, rfl⟩; rw [show atE l n = 0 by simp [atE, H.out]])
      go_ret
      rw [show useE l n = 0 by simp only [useE, H.out, Int.toNat_natCast, hz'.out, if_true], show use l n = l.set n 1 by simp only [use, H.out, Int.toNat_natCast, hz'.out, if_true]]
      exact ⟨rfl, h.set n 1, keep_set _ _ _ _⟩
    · have hz' := Lib.hid hz
      have hb : (l.getD n 0 != 0) = true := by rw [bne_iff_ne]; exact hz
      generalize l.getD n 0 = x at hd hb
      clear hz
      go_enter Try.func20, Try.ntmps20
      go_wp2_with (go_at_call 24; refine (at_any b a l n _ h).mono ?_; rintro e w' ⟨rfl, rfl⟩; rw [show atE l n = 0 by simp [atE, H.out]])
      go_ret
      rw [show useE l n = 10 by simp only [useE, H.out, Int.toNat_natCast, if_true, if_neg hz'.out], show use l n = l by simp only [use, H.out, Int.toNat_natCast, if_true, if_neg hz'.out]]
      exact ⟨rfl, h, Keep.refl _ _⟩

/-- where a number stands first -/
def idx (l : List Int) (v : Int) : Nat := l.findIdx (· == v)
theorem idx_le (l : List Int) (v : Int) : idx l v ≤ l.length := List.findIdx_le_length
theorem idx_get {l : List Int} {v : Int} (h : idx l v < l.length) : l.getD (idx l v) 0 = v := by
  have := List.findIdx_getElem (p := (· == v)) (w := h)
  rw [List.getD_eq_getElem?_getD, List.getElem?_eq_getElem h]
  exact eq_of_beq this
theorem idx_not {l : List Int} {v : Int} {i : Nat} (h : i < idx l v) : l.getD i 0 ≠ v := by
  have hl := idx_le l v
  have := List.not_of_lt_findIdx (p := (· == v)) h
  have hi : i < l.length := by omega
  simpa [List.getD, hi] using this

def indexR (l : List Int) (v : Int) : Int := if idx l v < l.length then (idx l v : Int) else -1

set_option maxHeartbeats 400000 in
theorem index_any (a n : Nat) (l : List Int) (v : Int) (w : World) (hs : l.length ≤ 1024) (h : w.heap[a]? = some (.cells (ints l) 3 (0, 0))) :
    Calls Try.prog 31 #[.slice (some ⟨a, 0, none⟩) l.length n, .int .i64 v] w fun e w' =>
      e = .returned (.int .i64 (indexR l v)) ∧ w = w' := by
  have hle := idx_le l v
  go_enter Try.func31, Try.ntmps31
  go_wp2
  go_loop [5, 8] (fun _ i => ∃ k : Nat, k ≤ idx l v ∧ i = .int .i64 k) (fun _ i => l.length - (intOf i).toNat)
  case atStart => exact ⟨0, Nat.zero_le _, rfl⟩
  case round =>
    obtain ⟨k, hk, rfl⟩ := hrel
    by_cases hlt : k < l.length
    · have hc := cell_at h (ints_get hlt)
      by_cases he : k = idx l v
      · have hv : l.getD k 0 = v := by subst he; exact idx_get hlt
        have hi := Lib.hid (show indexR l v = (k : Int) by rw [indexR, ← he, if_pos hlt])
        rw [hv] at hc
        clear hv he
        go_wp2
        go_ret
        exact ⟨by rw [hi.out]; rfl, rfl⟩
      · have hv := idx_not (show k < idx l v by omega)
        have hb : (v == l.getD k 0) = false := by rw [beq_eq_false_iff_ne]; exact fun e => hv e.symm
        generalize l.getD k 0 = x at hc hb hv
        clear hv
        go_wp2
        go_round
        case rel => exact ⟨k + 1, by omega, by go_num⟩
        case measure => simp [intOf]; omega
    · have hi := Lib.hid (show indexR l v = -1 by rw [indexR, if_neg (by omega)])
      go_wp2
      go_ret
      exact ⟨by rw [hi.out]; rfl, rfl⟩

set_option maxHeartbeats 400000 in
theorem first_any (b a : Nat) (l : List Int) (v : Int) (w : World) (h : At w b a l) :
    Calls Try.prog 25 #[.pointer (some ⟨b, 0, none⟩), .int .i64 v] w fun e w' => e = .returned (.int .i64 (indexR l v)) ∧ w = w' := by
  have hc := cell_at (i := 0) h.head rfl
  go_enter Try.func25, Try.ntmps25
  go_wp2_with (go_at_call 31; refine (index_any a l.length l v _ h.small h.list).mono ?_; rintro e w' ⟨rfl, rfl⟩)
  go_ret
  exact ⟨rfl, rfl⟩

def takeE (l : List Int) : Int := if idx l 0 < l.length then 0 else 11
def takeI (l : List Int) : Int := if idx l 0 < l.length then (idx l 0 : Int) else 0
def take (l : List Int) : List Int := if idx l 0 < l.length then l.set (idx l 0) 2 else l

set_option maxHeartbeats 400000 in
theorem take_nil (w : World) :
    Calls Try.prog 14 #[.pointer none] w fun e w' => e = .returned (.tuple #[.int .i64 0, .int .i64 1]) ∧ w = w' := by
  go_enter Try.func14, Try.ntmps14
  go_wp2
  go_ret2
  exact ⟨rfl, rfl⟩

set_option maxHeartbeats 400000 in
theorem take_any (b a : Nat) (l : List Int) (w : World) (h : At w b a l) :
    Calls Try.prog 14 #[.pointer (some ⟨b, 0, none⟩)] w fun e w' =>
      e = .returned (.tuple #[.int .i64 (takeI l), .int .i64 (takeE l)]) ∧ At w' b a (take l) ∧ Keep (· = a) w w' := by
  have hmf : ∀ (fn : Fn) (first cap : Array Value) (w : World), (Instr.makeFunc fn first cap).run Try.prog w = .ok (.func fn first cap) w := fun _ _ _ _ => rfl
  have hs := h.small
  have hc := cell_at (i := 0) h.head rfl
  by_cases hlt : idx l 0 < l.length
  · have hf := free_at (idx l 0) h.list
    have H : Hid (indexR l 0 = (idx l 0 : Nat)) := by show _ = _; rw [indexR, if_pos hlt]
    have hy := h.cell hlt
    have H1 := Lib.hid (show takeI l = (idx l 0 : Nat) by rw [takeI, if_pos hlt])
    have H2 := Lib.hid (show takeE l = 0 by rw [takeE, if_pos hlt])
    have H3 := Lib.hid (show take l = l.set (idx l 0) 2 by rw [take, if_pos hlt])
    go_enter Try.func14, Try.ntmps14
    go_wp2_with (go_at_call 25; refine (first_any b a l 0 _ h).mono ?_; rintro e w' ⟨rfl, rfl⟩; rw [H.out])
    go_ret2
    exact ⟨ret2 H1.out H2.out, by rw [H3.out]; exact h.set _ 2, keep_set _ _ _ _⟩
  · have H : Hid (indexR l 0 = -1) := by show _ = _; rw [indexR, if_neg hlt]
    have H1 := Lib.hid (show takeI l = 0 by rw [takeI, if_neg hlt])
    have H2 := Lib.hid (show takeE l = 11 by rw [takeE, if_neg hlt])
    have H3 := Lib.hid (show take l = l by rw [take, if_neg hlt])
    go_enter Try.func14, Try.ntmps14
    go_wp2_with (go_at_call 25; refine (first_any b a l 0 _ h).mono ?_; rintro e w' ⟨rfl, rfl⟩; rw [H.out])
    go_ret2
    exact ⟨ret2 H1.out H2.out, by rw [H3.out]; exact h, Keep.refl _ _⟩

set_option maxHeartbeats 400000 in
theorem leave_nil (i : Int) (w : World) :
    Calls Try.prog 12 #[.pointer none, .int .i64 i] w fun e w' => e = .returned (.int .i64 1) ∧ w = w' := by
  go_enter Try.func12, Try.ntmps12
  go_wp2_with (go_at_call 24; refine (at_nil i _).mono ?_; rintro e w' ⟨rfl, rfl⟩)
  go_ret
  exact ⟨rfl, rfl⟩

set_option maxHeartbeats 400000 in
theorem use_nil (i : Int) (w : World) :
    Calls Try.prog 20 #[.pointer none, .int .i64 i] w fun e w' => e = .returned (.int .i64 1) ∧ w = w' := by
  go_enter Try.func20, Try.ntmps20
  go_wp2_with (go_at_call 24; refine (at_nil i _).mono ?_; rintro e w' ⟨rfl, rfl⟩)
  go_ret
  exact ⟨rfl, rfl⟩

set_option maxHeartbeats 400000 in
theorem leave_any (b a : Nat) (l : List Int) (i : Int) (w : World) (h : At w b a l) :
    Calls Try.prog 12 #[.pointer (some ⟨b, 0, none⟩), .int .i64 i] w fun e w' =>
      e = .returned (.int .i64 (leaveE l i)) ∧ At w' b a (leave l i) ∧ Keep (· = a) w w' := by
  have hs := h.small
  have hc := cell_at (i := 0) h.head rfl
  cases hh : has l i with
  | false =>
    have H := Lib.hid hh; clear hh
    go_enter Try.func12, Try.ntmps12
    go_wp2_with (go_at_call 24; refine (at_any b a l i _ h).mono ?_; rintro e w' ⟨rfl, rfl⟩; rw [show atE l i = 3 by simp [atE, H.out]])
    go_ret
    rw [show leaveE l i = 3 by simp [leaveE, H.out], show leave l i = l by simp [leave, H.out]]
    exact ⟨rfl, h, Keep.refl _ _⟩
  | true =>
    have H := Lib.hid hh
    obtain ⟨h0, h1⟩ := has_iff.1 hh
    clear hh
    obtain ⟨n, rfl⟩ := Int.eq_ofNat_of_zero_le h0
    have hn : n < l.length := by omega
    have hd := h.cell hn
    have hf := free_at n h.list
    have H0 := Lib.hid (show atE l n = 0 by simp [atE, H.out])
    by_cases h2 : l.getD n 0 = 2
    · have H1 := Lib.hid (show leaveE l n = 0 by simp only [leaveE, H.out, Int.toNat_natCast, h2, if_true, true_or])
      have H2 := Lib.hid (show leave l n = l.set n 0 by simp only [leave, H.out, Int.toNat_natCast, h2, if_true])
      rw [h2] at hd
      clear h2
      go_enter Try.func12, Try.ntmps12
      go_wp2_with (go_at_call 24; refine (at_any b a l n _ h).mono ?_; rintro e w' ⟨rfl, rfl⟩; rw [H0.out])
      go_ret
      exact ⟨ret1 H1.out, by rw [H2.out]; exact h.set n 0, keep_set _ _ _ _⟩
    · by_cases h1 : l.getD n 0 = 1
      · have H1 := Lib.hid (show leaveE l n = 0 by simp only [leaveE, H.out, Int.toNat_natCast, h1, if_true, or_true])
        have H2 := Lib.hid (show leave l n = l.set n 3 by simp only [leave, H.out, Int.toNat_natCast, if_true]; rw [if_neg h2, if_pos h1])
        rw [h1] at hd
        clear h1 h2
        go_enter Try.func12, Try.ntmps12
        go_wp2_with (go_at_call 24; refine (at_any b a l n _ h).mono ?_; rintro e w' ⟨rfl, rfl⟩; rw [H0.out])
        go_ret
        exact ⟨ret1 H1.out, by rw [H2.out]; exact h.set n 3, keep_set _ _ _ _⟩
      · have H1 := Lib.hid (show leaveE l n = 9 by simp only [leaveE, H.out, Int.toNat_natCast, if_true]; rw [if_neg (fun e => e.elim h2 h1)])
        have H2 := Lib.hid (show leave l n = l by simp only [leave, H.out, Int.toNat_natCast, if_true]; rw [if_neg h2, if_neg h1])
        have b2 : (l.getD n 0 == 2) = false := by rw [beq_eq_false_iff_ne]; exact h2
        have b1 : (l.getD n 0 == 1) = false := by rw [beq_eq_false_iff_ne]; exact h1
        clear h1 h2
        generalize l.getD n 0 = x at hd b1 b2
        go_enter Try.func12, Try.ntmps12
        go_wp2_with (go_at_call 24; refine (at_any b a l n _ h).mono ?_; rintro e w' ⟨rfl, rfl⟩; rw [H0.out])
        go_ret
        exact ⟨ret1 H1.out, by rw [H2.out]; exact h, Keep.refl _ _⟩

end Fm
end Go.Proofs.Ytmkckichkmgemaa
