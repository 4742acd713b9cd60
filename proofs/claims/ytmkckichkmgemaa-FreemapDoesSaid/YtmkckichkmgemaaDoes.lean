/- The walk of FreemapDoes: every call of a map is answered as the document says. -/
import Derived.Test.YtmkckichkmgemaaSt
namespace Go.Proofs.Ytmkckichkmgemaa
open Go.RowKit
namespace Does
open Fl

set_option maxHeartbeats 1000000 in
set_option maxRecDepth 100000 in
theorem walk_no (n other : Int) (s : Value) (w : World) (h : n < 0 ∨ 1024 < n) :
    Calls Try.prog 6 #[.int .i64 n, s, .int .i64 other] w fun e w' => e = .returned (.bool true) ∧ Below w.heap.size w w' := by
  go_enter Try.func6, Try.ntmps6
  go_wp2_with fail
  refine (made_no n s _ h).mono ?_
  rintro e w' ⟨rfl, rfl⟩
  go_wp2_with fail
  refine (awake_any _).mono ?_
  rintro e w1 ⟨rfl, b1⟩
  go_wp2_with fail
  refine (awake_any _).mono ?_
  rintro e w2 ⟨rfl, b2⟩
  go_wp2_with fail
  go_ret
  exact ⟨rfl, Fm.Below.next b1 b2⟩

/-- what stands behind the loop -/
theorem last_eq {l : List Int} {n : Nat} (hl : l.length = n) (other : Int) (h0 : 0 ≤ other) (h1 : other < n) : Fm.fresh l other = (l.getD other.toNat 0 == 2) := by
  have : Fm.has l other = true := by simp [Fm.has, h0, hl, h1]
  simp only [Fm.fresh, this, Bool.true_and]
  rfl
theorem last_no {l : List Int} {n : Nat} (hl : l.length = n) (other : Int) (h : ¬ (0 ≤ other ∧ other < n)) : Fm.fresh l other = false := by
  have : Fm.has l other = false := by simp only [Fm.has, hl, decide_eq_false_iff_not]; exact h
  simp [Fm.fresh, this]

set_option maxHeartbeats 4000000 in
set_option maxRecDepth 100000 in
theorem walk_yes (n : Nat) (other : Int) (s : Value) (acts : List (Int × Int)) (w : World) (h : n ≤ 1024) (hs : Acts w s acts) :
    Calls Try.prog 6 #[.int .i64 n, s, .int .i64 other] w fun e w' => e = .returned (.bool true) ∧ Below w.heap.size w w' := by
  go_enter Try.func6, Try.ntmps6
  go_wp2_with fail
  refine (made_yes n s acts _ h hs).mono ?_
  rintro e w1 ⟨b, x, rfl, a, v, hbo, hbel, hb, ha, hx, hvo⟩
  have hl : (steps (Fm.zeros n) (acts.take 60)).length = n := by rw [steps_length, Fm.zeros_length]
  generalize steps (Fm.zeros n) (acts.take 60) = l at hbo hl
  have HL := Lib.hid hl
  have hln : l.length ≤ 1024 := by omega
  clear hl
  have st1 : St w w1 b a x v l := ⟨hbo, hbel, hb, ha, hx⟩
  clear hbo hbel
  go_wp2_with (first
    | (go_at_call 9; refine (st_awake (by assumption)).mono ?_; rintro e w2 ⟨rfl, st2⟩)
    | (go_at_call 16; refine (st_count (by assumption)).mono ?_; rintro e w3 ⟨rfl, st3⟩))
  clear st1 st2 hb ha hx hvo
  go_loopw [14] (fun i wr => ∃ k : Nat, i = .int .i64 k ∧ k ≤ 5 ∧ St w wr b a x v l) (fun i _ => 5 - (intOf i).toNat)
  case atStart => exact ⟨0, rfl, by omega, st3⟩
  case round =>
    obtain ⟨k, rfl, hk, st⟩ := hrel
    clear st3
    by_cases hlt : k < 5
    · go_wp2_with fail
      refine (st_mlist st k).mono ?_
      rintro e w4 ⟨o, c, rfl, own4, bel4, st4⟩
      go_wp2_with fail
      refine (st_rlist st4 k).mono ?_
      rintro e w5 ⟨o', c', rfl, own5, bel5, st5⟩
      have own4' := Fr.own_keep own4 (S := fun _ => False) (Keep.of_below bel5) (fun _ _ e => e)
      have hp := places_le l k
      go_wp2_with fail
      refine (ints_same _ _ _ _ (Fr.own_le own4' (Nat.zero_le _)) (Fr.own_le own5 (Nat.zero_le _)) (by omega)).mono ?_
      rintro e w6 ⟨rfl, m, rfl⟩
      have st6 : St w (w5.drewN m) b a x v l := st5.next ⟨rfl, rfl, rfl, Nat.le_refl _, fun _ _ => rfl⟩
      clear own4 own5 own4' bel4 bel5 st4 st5 st hp
      go_wp2_with fail
      go_roundw
      case rel => exact ⟨k + 1, by go_num, by omega, st6⟩
      case measure => simp [intOf]; omega
    · have hc := cell_of_one st.both.r.head
      obtain ⟨o, c, hv⟩ := Fm.slice_of_owns st.both.r.row
      by_cases h0 : 0 ≤ other
      · by_cases h1 : other < n
        · obtain ⟨i, rfl⟩ := Int.eq_ofNat_of_zero_le h0
          have hi : i < l.length := by rw [HL.out]; omega
          obtain ⟨g, cap, rfl, hd⟩ := st.both.r.cell hi
          have HF := Lib.hid (last_eq HL.out i h0 h1)
          rw [Int.toNat_natCast] at HF
          generalize l.getD i 0 = y at hd HF
          clear hv
          go_wp2_with (first
            | (go_at_call 17; refine (st_rlist (by assumption) _).mono ?_; rintro e w4 ⟨o', c', rfl, _, _, st4⟩)
            | (go_at_call 18; refine (st_free (by assumption)).mono ?_; rintro e w5 ⟨rfl, st5⟩)
            | (go_at_call 19; refine (st_fresh (by assumption) _).mono ?_; rintro e w6 ⟨rfl, st6⟩; rw [HF.out]))
          go_ret
          exact ⟨by simp, st6.below⟩
        · have HF := Lib.hid (last_no HL.out other (by omega))
          rw [hv] at hc
          clear hv
          go_wp2_with (first
            | (go_at_call 17; refine (st_rlist (by assumption) _).mono ?_; rintro e w4 ⟨o', c', rfl, _, _, st4⟩)
            | (go_at_call 18; refine (st_free (by assumption)).mono ?_; rintro e w5 ⟨rfl, st5⟩)
            | (go_at_call 19; refine (st_fresh (by assumption) _).mono ?_; rintro e w6 ⟨rfl, st6⟩; rw [HF.out]))
          go_ret
          exact ⟨rfl, st6.below⟩
      · have HF := Lib.hid (last_no HL.out other (by omega))
        rw [hv] at hc
        clear hv
        go_wp2_with (first
          | (go_at_call 17; refine (st_rlist (by assumption) _).mono ?_; rintro e w4 ⟨o', c', rfl, _, _, st4⟩)
          | (go_at_call 18; refine (st_free (by assumption)).mono ?_; rintro e w5 ⟨rfl, st5⟩)
          | (go_at_call 19; refine (st_fresh (by assumption) _).mono ?_; rintro e w6 ⟨rfl, st6⟩; rw [HF.out]))
        go_ret
        exact ⟨rfl, st6.below⟩

end Does
end Go.Proofs.Ytmkckichkmgemaa
