/- The walk of FreemapKept: until the next commit no page that was in use at the last one is taken. -/
import Derived.Test.YtmkckichkmgemaaMt
namespace Go.Proofs.Ytmkckichkmgemaa
open Go.RowKit
namespace Kept
open Fl Fp Aborts

theorem start1 {W w w' w2 : World} {b a x : Nat} {v : Value} {l : List Int} {u1 : Value} (h : St W w b a x v l) (hk : Kinds l) (hm : Fm.At w' b a (Fm.turn 0 1 l)) (k : Keep (· = a) w w')
    (o1 : w2.ownsRow w'.heap.size 3 1 u1 (Fm.places (Fm.turn 0 1 l) 1).length (Fm.vals (Fm.places (Fm.turn 0 1 l) 1))) (b1 : Below w'.heap.size w' w2) : Mt W w2 b a (Fm.turn 0 1 l) [] (.slice none 0 0) u1 := by
  have ha' := lt_of_block hm.list
  refine ⟨⟨_, hm.below b1, Since.start hk⟩, Fm.Below.next (h.turned hm k) b1, h.hb, h.ha, World.ownsRow_nil _ _ _ _, Fr.own_le o1 (Nat.zero_le _), by simp [Value.ownBlock], ?_⟩
  intro e; have := (o1.lt a e).1; omega

set_option maxHeartbeats 4000000 in
set_option maxRecDepth 100000 in
theorem walk (s s' : Value) (acts more : List (Int × Int)) (w : World) (hs : Acts w s acts) (hs' : Acts w s' more) :
    Calls Try.prog 4 #[s, s'] w fun e w' => e = .returned (.bool true) ∧ Below w.heap.size w w' := by
  obtain ⟨so, sc, rfl, hsc⟩ := hs'
  go_enter Try.func4, Try.ntmps4
  go_wp2_with fail
  refine (made_yes 12 s acts _ (by omega) hs).mono ?_
  rintro e w1 ⟨b, x, rfl, a, v, hbo, hbel, hb, ha, hx, hvo⟩
  have hl : (steps (Fm.zeros 12) (acts.take 60)).length = 12 := by rw [steps_length, Fm.zeros_length]
  have hkinds := (Kinds.zeros 12).steps (acts.take 60)
  generalize steps (Fm.zeros 12) (acts.take 60) = l at hbo hl hkinds
  have HK := Lib.hid hkinds
  have p1 : (Fm.places (Fm.turn 0 1 l) 1).length ≤ 12 := by have := places_le (Fm.turn 0 1 l) 1; rw [Fm.turn, List.length_map, hl] at this; exact this
  clear hl hkinds
  have st1 : St w w1 b a x v l := ⟨hbo, hbel, hb, ha, hx⟩
  clear hbo hbel hb ha hx hvo
  go_wp2_with fail
  refine (st_awake st1).mono ?_
  rintro e w2 ⟨rfl, st2⟩
  go_wp2_with fail
  refine (Fm.commit_any b a l _ st2.both.m).mono ?_
  rintro e w3 ⟨rfl, m3, k3⟩
  go_wp2_with fail
  refine (Fm.list_any b a _ 1 _ m3).mono ?_
  rintro e w4 ⟨u1, rfl, o1, b1⟩
  have M := start1 st2 HK.out m3 k3 o1 b1
  generalize Fm.turn 0 1 l = c at M p1
  clear st1 st2 m3 k3 o1 b1
  go_wp2_with fail
  go_loopw [9, 10, 11, 12, 14] (fun i _ _ _ _ wr => ∃ k : Nat, i = .int .i64 k ∧ k ≤ more.length ∧ k ≤ 40 ∧ Mt w wr b a c [] (.slice none 0 0) u1) (fun i _ _ _ _ _ => 40 - (intOf i).toNat)
  case atStart => exact ⟨0, rfl, Nat.zero_le _, Nat.zero_le _, M⟩
  case round =>
    obtain ⟨k, rfl, hk, hk4, M1⟩ := hrel
    clear M
    by_cases hlt : k < more.length ∧ k < 40
    · obtain ⟨hlt, h40⟩ := hlt
      obtain ⟨g, off, rfl, h1, h2⟩ := hsc k hlt
      have hg := block_of_cell h1
      have hc1 := (M1.below.cell (p := ⟨g, off + k * 2, none⟩) hg).trans h1
      have hc2 := (M1.below.cell (p := ⟨g, off + k * 2 + 1, none⟩) hg).trans h2
      generalize (more.getD k (0, 0)).1 = p at hc1 h1
      generalize (more.getD k (0, 0)).2 = q at hc2 h2
      have M2 := M1.next ((Below.refl _ _).alloc (Nat.le_refl _) (.cells #[.int .i64 p, .int .i64 q] 32))
      clear M1
      by_cases h4 : p = 4 ∨ p = 5
      · rcases h4 with rfl | rfl
        all_goals
          go_wp2_with (go_at_call 12; refine (mt_leave (by assumption) _).mono ?_; rintro e w6 ⟨n, rfl, M3⟩)
          go_roundw
          case rel => exact ⟨k + 1, by go_num, by omega, by omega, M3⟩
          case measure => simp [intOf]; omega
      · have n4 : (p == 4) = false := beq_eq_false_iff_ne.2 fun e => h4 (Or.inl e)
        have n5 : (p == 5) = false := beq_eq_false_iff_ne.2 fun e => h4 (Or.inr e)
        clear h4
        by_cases h7 : p = 7
        · subst h7
          go_wp2_with (go_at_call 13; refine (mt_abort (by assumption)).mono ?_; rintro e w6 ⟨rfl, _, M3⟩)
          go_roundw
          case rel => exact ⟨k + 1, by go_num, by omega, by omega, M3⟩
          case measure => simp [intOf]; omega
        · have n7 : (p == 7) = false := beq_eq_false_iff_ne.2 h7
          clear h7
          by_cases h13 : 1 ≤ p ∧ p ≤ 3
          · obtain ⟨hp1, hp3⟩ := h13
            obtain ⟨o1, c1, hu⟩ := Fm.slice_of_owns M2.r1
            subst hu
            go_wp2_with fail
            refine (mt_take M2).mono ?_
            rintro e w6 ⟨i, n, rfl, hin, M3⟩
            have HI := Lib.hid hin
            clear hin M2
            go_wp2_with fail
            go_loopw [14, 84] (fun _ j wr => ∃ m : Nat, j = .int .i64 m ∧ m ≤ (Fm.places c 1).length ∧ wr = w6) (fun _ j _ => (Fm.places c 1).length - (intOf j).toNat)
            case atStart => exact ⟨0, rfl, Nat.zero_le _, rfl⟩
            case round =>
              obtain ⟨m, rfl, hm, rfl⟩ := hrel
              by_cases hml : m < (Fm.places c 1).length
              · obtain ⟨g', cap, he, _, _⟩ := own_form M3.r1 (by omega)
                simp only [Value.slice.injEq, true_and] at he
                obtain ⟨rfl, rfl⟩ := he
                have hc := M3.r1.cellAt m (by omega)
                have hmem : (Fm.places c 1).getD m 0 ∈ Fm.places c 1 := by
                  rw [List.getD_eq_getElem?_getD, List.getElem?_eq_getElem hml]; exact List.getElem_mem hml
                rw [show (Fm.vals (Fm.places c 1))[m]? = some (.int .i64 (((Fm.places c 1).getD m 0 : Nat) : Int)) by simp [Fm.vals, List.getD_eq_getElem?_getD, hml]] at hc
                generalize (Fm.places c 1).getD m 0 = y at hc hmem
                by_cases hn0 : n = 0
                · obtain ⟨j, rfl, hj⟩ := HI.out hn0
                  have hne : ((y : Int) == (j : Int)) = false := by
                    rw [beq_eq_false_iff_ne]; intro e; exact hj (by rw [show j = y by omega]; exact hmem)
                  subst hn0
                  clear hmem
                  go_wp2_with fail
                  go_roundw
                  case rel => exact ⟨m + 1, by go_num, by omega, by simp⟩
                  case measure => simp [intOf]; omega
                · have hne : (n == 0) = false := beq_eq_false_iff_ne.2 hn0
                  clear hn0 hmem
                  go_wp2_with fail
                  go_roundw
                  case rel => exact ⟨m + 1, by go_num, by omega, by simp⟩
                  case measure => simp [intOf]; omega
              · go_wp2_with fail
                go_roundw
                case rel => exact ⟨k + 1, by go_num, by omega, by omega, M3⟩
                case measure => simp [intOf]; omega
          · by_cases hp1 : 1 ≤ p
            · have hp3 : ¬ p ≤ 3 := by omega
              go_wp2_with fail
              go_roundw
              case rel => exact ⟨k + 1, by go_num, by omega, by omega, M2⟩
              case measure => simp [intOf]; omega
            · go_wp2_with fail
              go_roundw
              case rel => exact ⟨k + 1, by go_num, by omega, by omega, M2⟩
              case measure => simp [intOf]; omega
    · by_cases hlk : k < more.length
      all_goals
        first | (have h40 : ¬ k < 40 := by omega) | skip
        clear hlt
        go_wp2_with fail
        go_ret
        exact ⟨rfl, M1.below⟩

end Kept
end Go.Proofs.Ytmkckichkmgemaa
