/- The walk of FreemapOne: each page is just one of the four. -/
import Derived.Test.YtmkckichkmgemaaFmPure
namespace Go.Proofs.Ytmkckichkmgemaa
open Go.RowKit
namespace One
open Fl Fp

theorem st_store {W w : World} {b a x : Nat} {v : Value} {l : List Int} (h : St W w b a x v l) {s : Nat} (hs : W.heap.size ≤ s) (hb : s ≠ b) (ha : s ≠ a) (hx : s ≠ x) (hv : v.ownBlock ≠ some s) (i : Nat) (u : Value) : St W (w.setCell ⟨s, i, none⟩ u) b a x v l :=
  ⟨h.both.keep (keep_set s i w u) (fun e => hb e.symm) (fun e => ha e.symm) (fun e => hx e.symm) (fun g hg e => hv (by rw [hg, e])), h.below.setCell (p := ⟨s, i, none⟩) hs u, h.hb, h.ha, h.hx⟩

set_option maxHeartbeats 4000000 in
set_option maxRecDepth 100000 in
theorem walk (s : Value) (acts : List (Int × Int)) (w : World) (hs : Acts w s acts) :
    Calls Try.prog 3 #[s] w fun e w' => e = .returned (.bool true) ∧ Below w.heap.size w w' := by
  have hmk : ∀ W : World, (Instr.makeSlice 28 (.int .i64 12) (.int .i64 12)).run Try.prog W = .ok (.slice (some ⟨W.heap.size, 0, none⟩) 12 12) (W.alloc (.cells (ints (Fm.zeros 12)) 3)) := by
    obtain ⟨i0, hi, hz0, hz1, hz2⟩ := info_parts Try.infoInt
    have hmk := fun w : World => run_make (P := Try.prog) w 28 3 i0 _ Try.underlying28 hi hz0 .i64 .i64 (12 : Nat) (12 : Nat) (by omega) (by omega) (by rw [hz2]; omega) (by omega)
    simp only [Int.toNat_natCast, hz1, Fm.made_zeros] at hmk
    exact hmk
  go_enter Try.func3, Try.ntmps3
  go_wp2_with fail
  refine (made_yes 12 s acts _ (by omega) hs).mono ?_
  rintro e w1 ⟨b, x, rfl, a, v, hbo, hbel, hb, ha, hx, hvo⟩
  have hl : (steps (Fm.zeros 12) (acts.take 60)).length = 12 := by rw [steps_length, Fm.zeros_length]
  have hkinds := (Kinds.zeros 12).steps (acts.take 60)
  generalize steps (Fm.zeros 12) (acts.take 60) = l at hbo hl hkinds
  have HL := Lib.hid hl
  have HK := Lib.hid hkinds
  have hln : l.length ≤ 12 := by omega
  clear hl hkinds
  have st1 : St w w1 b a x v l := ⟨hbo, hbel, hb, ha, hx⟩
  clear hbo hbel
  go_wp2_with fail
  refine (st_awake st1).mono ?_
  rintro e w2 ⟨rfl, st2⟩
  have st3 := st2.next ((Below.refl _ _).alloc (Nat.le_refl _) (.cells (ints (Fm.zeros 12)) 3))
  have hs0 := heap_alloc_last w2 (.cells (ints (Fm.zeros 12)) 3)
  rw [← seen_zero HK.out HL.out] at hs0 st3 hmk
  obtain ⟨sb, hsb⟩ : ∃ sb, sb = w2.heap.size := ⟨_, rfl⟩
  have q0 := st2.below.size
  have q1 := lt_of_block st2.both.m.head
  have q2 := lt_of_block st2.both.m.list
  have q3 := lt_of_block st2.both.r.head
  have q4 : v.ownBlock ≠ some sb := fun e => by have := (st2.both.r.row.lt sb e).2; omega
  have q5 : w.heap.size ≤ sb := by omega
  have q6 : sb ≠ b := by omega
  have q7 : sb ≠ a := by omega
  have q8 : sb ≠ x := by omega
  clear st1 hb ha hx hvo q1 q2 q3 st2 q0
  go_wp2_with fail
  rw [← hsb] at hs0 ⊢
  clear hsb hmk
  go_loopw [7] (fun i wr => ∃ k : Nat, i = .int .i64 k ∧ k ≤ 4 ∧ St w wr b a x v l ∧ wr.heap[sb]? = some (.cells (ints (seenL l k 0)) 3 (0, 0))) (fun i _ => 4 - (intOf i).toNat)
  case atStart => exact ⟨0, rfl, by omega, st3, hs0⟩
  case round =>
    obtain ⟨k, rfl, hk, st, hsk⟩ := hrel
    clear st3 hs0
    by_cases hlt : k < 4
    · obtain ⟨wo, rfl⟩ : ∃ wo : World, wo = wr := ⟨_, rfl⟩
      go_wp2_with fail
      refine (st_mlist st k).mono ?_
      rintro e w4 ⟨o, c, rfl, own4, bel4, st4⟩
      have hsk4 := Fm.Below.at bel4 hsk
      have hsbo := lt_of_block hsk
      have hpl := places_le l k
      go_wp2_with fail
      go_loopw [9, 36] (fun _ i wr => ∃ j : Nat, i = .int .i64 j ∧ j ≤ (Fm.places l k).length ∧ St w wr b a x v l ∧ wr.heap[sb]? = some (.cells (ints (seenL l k j)) 3 (0, 0)) ∧
        wr.ownsRow wo.heap.size 3 1 (.slice o (Fm.places l k).length c) (Fm.places l k).length (Fm.vals (Fm.places l k))) (fun _ i _ => (Fm.places l k).length - (intOf i).toNat)
      case atStart => exact ⟨0, rfl, Nat.zero_le _, st4, hsk4, own4⟩
      case round =>
        obtain ⟨j, rfl, hj, st5, hs5, own5⟩ := hrel
        clear own4 st4 hsk4
        by_cases hjl : j < (Fm.places l k).length
        · obtain ⟨g, cap, he, hg, _⟩ := own_form own5 (by omega)
          simp only [Value.slice.injEq, true_and] at he
          obtain ⟨rfl, rfl⟩ := he
          have hstep := seen_step HL.out k hjl
          have hc := own5.cellAt j (by omega)
          rw [show (Fm.vals (Fm.places l k))[j]? = some (.int .i64 (((Fm.places l k).getD j 0 : Nat) : Int)) by simp [Fm.vals, List.getD_eq_getElem?_getD, hjl]] at hc
          generalize (Fm.places l k).getD j 0 = y at hc hstep
          have hy := hstep.1
          have HS := Lib.hid hstep.2
          clear hstep
          have hcy := cell_at hs5 (ints_get (i := y) (by rw [seen_length]; exact hy))
          have hbd : 0 ≤ (seenL l k j).getD y 0 ∧ (seenL l k j).getD y 0 ≤ 2 := by
            rw [seen_get _ _ _ hy]; split <;> split <;> omega
          have hf := free_at y hs5
          have st6 := st_store st5 q5 q6 q7 q8 q4 y (.int .i64 ((seenL l k j).getD y 0 + 1))
          have hs6 := setCell_block y hs5 (.int .i64 ((seenL l k j).getD y 0 + 1))
          rw [ints_set, HS.out] at hs6
          have own6 := Fr.own_keep own5 (keep_set sb y wr (.int .i64 ((seenL l k j).getD y 0 + 1))) (fun g' hg' e => by simp [Value.ownBlock] at hg'; omega)
          generalize (seenL l k j).getD y 0 = z at hcy hbd st6 hs6 own6
          have S6 := Lib.hid st6
          have H6 := Lib.hid hs6
          have O6 := Lib.hid own6
          clear st6 hs6 own6 st5 hs5 own5
          go_wp2_with fail
          go_roundw
          case rel => exact ⟨j + 1, by go_num, by omega, S6.out, H6.out, O6.out⟩
          case measure => simp [intOf]; omega
        · have hjn : j = (Fm.places l k).length := by omega
          have hn : wr.heap[sb]? = some (.cells (ints (seenL l (k + 1 : Nat) 0)) 3 (0, 0)) := by rw [hs5, hjn, seen_next HL.out k]
          have HN := Lib.hid hn
          clear hn hs5 hjn own5
          go_wp2_with fail
          go_roundw
          case rel => exact ⟨k + 1, by go_num, by omega, st5, HN.out⟩
          case measure => simp [intOf]; omega
    · have hk4 : k = 4 := by omega
      subst hk4
      go_wp2_with fail
      go_loopw [10] (fun i wr' => ∃ k : Nat, i = .int .i64 k ∧ k ≤ 12 ∧ wr' = wr) (fun i _ => 12 - (intOf i).toNat)
      case atStart => exact ⟨0, rfl, by omega, rfl⟩
      case round =>
        obtain ⟨i, rfl, hi, rfl⟩ := hrel
        by_cases h12 : i < 12
        · have hc := cell_at hsk (ints_get (i := i) (by rw [seen_length]; exact h12))
          rw [seen_all HK.out HL.out h12] at hc
          go_wp2_with fail
          go_roundw
          case rel => exact ⟨i + 1, by go_num, by omega, by simp⟩
          case measure => simp [intOf]; omega
        · go_wp2_with fail
          go_ret
          exact ⟨rfl, st.below⟩

end One
end Go.Proofs.Ytmkckichkmgemaa
