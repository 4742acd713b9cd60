/- The walk of FreemapAborts: an abort goes back to what was committed. -/
import Derived.Test.YtmkckichkmgemaaMt
namespace Go.Proofs.Ytmkckichkmgemaa
open Go.RowKit
namespace Aborts
open Fl Fp

set_option maxHeartbeats 4000000 in
set_option maxRecDepth 100000 in
theorem walk (s s' : Value) (acts more : List (Int × Int)) (w : World) (hs : Acts w s acts) (hs' : Acts w s' more) :
    Calls Try.prog 5 #[s, s'] w fun e w' => e = .returned (.bool true) ∧ Below w.heap.size w w' := by
  obtain ⟨so, sc, rfl, hsc⟩ := hs'
  go_enter Try.func5, Try.ntmps5
  go_wp2_with fail
  refine (made_yes 12 s acts _ (by omega) hs).mono ?_
  rintro e w1 ⟨b, x, rfl, a, v, hbo, hbel, hb, ha, hx, hvo⟩
  have hl : (steps (Fm.zeros 12) (acts.take 60)).length = 12 := by rw [steps_length, Fm.zeros_length]
  have hkinds := (Kinds.zeros 12).steps (acts.take 60)
  generalize steps (Fm.zeros 12) (acts.take 60) = l at hbo hl hkinds
  have HK := Lib.hid hkinds
  have hpl : ∀ k, (Fm.places (Fm.turn 0 1 l) k).length ≤ 12 := fun k => by have := places_le (Fm.turn 0 1 l) k; rw [Fm.turn, List.length_map, hl] at this; exact this
  have p0 := hpl 0
  have p1 := hpl 1
  clear hl hkinds hpl
  have st1 : St w w1 b a x v l := ⟨hbo, hbel, hb, ha, hx⟩
  clear hbo hbel hb ha hx hvo
  go_wp2_with fail
  refine (st_awake st1).mono ?_
  rintro e w2 ⟨rfl, st2⟩
  go_wp2_with fail
  refine (Fm.commit_any b a l _ st2.both.m).mono ?_
  rintro e w3 ⟨rfl, m3, k3⟩
  go_wp2_with fail
  refine (Fm.list_any b a _ 0 _ m3).mono ?_
  rintro e w4 ⟨u0, rfl, o0, b0⟩
  go_wp2_with fail
  refine (Fm.list_any b a _ 1 _ (m3.below b0)).mono ?_
  rintro e w5 ⟨u1, rfl, o1, b1⟩
  have M := start st2 HK.out m3 k3 o0 b0 o1 b1
  have N2 := Lib.hid (M.m.elim fun l' h' => h'.2.none (k := 2) (Or.inl rfl))
  have N3 := Lib.hid (M.m.elim fun l' h' => h'.2.none (k := 3) (Or.inr rfl))
  generalize Fm.turn 0 1 l = c at M p0 p1 N2 N3
  clear st1 st2 m3 k3 o0 b0 o1 b1
  go_wp2_with fail
  go_loopw [10, 11] (fun i _ wr => ∃ k : Nat, i = .int .i64 k ∧ k ≤ more.length ∧ k ≤ 40 ∧ Mt w wr b a c (Fm.places c 0) u0 u1) (fun i _ _ => 40 - (intOf i).toNat)
  case atStart => exact ⟨0, rfl, Nat.zero_le _, Nat.zero_le _, M⟩
  case round =>
    obtain ⟨k, rfl, hk, hk4, M1⟩ := hrel
    clear M
    have fin : Hid (∀ W, Mt w W b a c (Fm.places c 0) u0 u1 → Calls Try.prog 13 #[.pointer (some ⟨b, 0, none⟩)] W fun e w' => e = .returned (.bool true) ∧ Fm.At w' b a c ∧ Mt w w' b a c (Fm.places c 0) u0 u1) := fun W h => mt_abort h
    by_cases hlt : k < more.length ∧ k < 40
    · obtain ⟨hlt, h40⟩ := hlt
      obtain ⟨g, off, rfl, h1, h2⟩ := hsc k hlt
      have hg := block_of_cell h1
      have hc1 := (M1.below.cell (p := ⟨g, off + k * 2, none⟩) hg).trans h1
      have hc2 := (M1.below.cell (p := ⟨g, off + k * 2 + 1, none⟩) hg).trans h2
      generalize (more.getD k (0, 0)).1 = p at hc1 h1
      generalize (more.getD k (0, 0)).2 = q at hc2 h2
      have M2 := M1.next ((Below.refl _ _).alloc (Nat.le_refl _) (.cells #[.int .i64 p, .int .i64 q] 32))
      clear M1
      by_cases h4 : p = 4 ∨ p = 5
      · rcases h4 with rfl | rfl
        all_goals
          go_wp2_with (go_at_call 12; refine (mt_leave (by assumption) _).mono ?_; rintro e w6 ⟨n, rfl, M3⟩)
          go_roundw
          case rel => exact ⟨k + 1, by go_num, by omega, by omega, M3⟩
          case measure => simp [intOf]; omega
      · have n4 : (p == 4) = false := beq_eq_false_iff_ne.2 fun e => h4 (Or.inl e)
        have n5 : (p == 5) = false := beq_eq_false_iff_ne.2 fun e => h4 (Or.inr e)
        clear h4
        by_cases h13 : 1 ≤ p ∧ p ≤ 3
        · obtain ⟨hp1, hp3⟩ := h13
          go_wp2_with (go_at_call 14; refine (mt_take (by assumption)).mono ?_; rintro e w6 ⟨i, n, rfl, _, M3⟩)
          go_roundw
          case rel => exact ⟨k + 1, by go_num, by omega, by omega, M3⟩
          case measure => simp [intOf]; omega
        · by_cases hp1 : 1 ≤ p
          · have hp3 : ¬ p ≤ 3 := by omega
            go_wp2_with fail
            go_roundw
            case rel => exact ⟨k + 1, by go_num, by omega, by omega, M2⟩
            case measure => simp [intOf]; omega
          · go_wp2_with fail
            go_roundw
            case rel => exact ⟨k + 1, by go_num, by omega, by omega, M2⟩
            case measure => simp [intOf]; omega
    · by_cases hlk : k < more.length
      all_goals
        first | (have h40 : ¬ k < 40 := by omega) | skip
        clear hlt
        go_wp2_with fail
        refine (fin.out _ M1).mono ?_
        rintro e w6 ⟨rfl, m6, M6⟩
        go_wp2_with fail
        refine (mt_list M6 m6 0).mono ?_
        rintro e w7 ⟨o7, c7, rfl, r7, m7, M7⟩
        go_wp2_with fail
        refine (ints_same _ _ _ _ r7 M7.r0 (by omega)).mono ?_
        rintro e w8 ⟨rfl, d8, rfl⟩
        have M8 := mt_drew M7 d8
        have m8 : Fm.At (w7.drewN d8) b a c := m7.below ⟨rfl, rfl, rfl, Nat.le_refl _, fun _ _ => rfl⟩
        go_wp2_with fail
        refine (mt_list M8 m8 1).mono ?_
        rintro e w9 ⟨o9, c9, rfl, r9, m9, M9⟩
        go_wp2_with fail
        refine (ints_same _ _ _ _ r9 M9.r1 (by omega)).mono ?_
        rintro e w10 ⟨rfl, d10, rfl⟩
        have M10 := mt_drew M9 d10
        have m10 : Fm.At (w9.drewN d10) b a c := m9.below ⟨rfl, rfl, rfl, Nat.le_refl _, fun _ _ => rfl⟩
        go_wp2_with fail
        refine (mt_list M10 m10 2).mono ?_
        rintro e w11 ⟨o11, c11, rfl, r11, m11, M11⟩
        rw [N2.out]
        go_wp2_with fail
        refine (mt_list M11 m11 3).mono ?_
        rintro e w12 ⟨o12, c12, rfl, r12, m12, M12⟩
        rw [N3.out]
        go_wp2_with fail
        go_ret
        exact ⟨rfl, M12.below⟩

end Aborts
end Go.Proofs.Ytmkckichkmgemaa
