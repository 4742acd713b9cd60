/- What Check of the program's layer 17 (slots) does. -/
import Derived.Test.YtkdjhegkcfmkoaaGreatNe
namespace Go.Proofs.YtkdjhegkcfmkoaaGreat
open Go.RowKit
open Md (Str)

abbrev slv (x : Md.Slot) : Value := .agg #[.int .i64 (x.1 : Nat), .int .i64 (x.2 : Nat)]
set_option maxRecDepth 100000 in
set_option maxHeartbeats 800000 in
theorem apart_any (a b c d : Nat) (w : World) (ha : a ≤ 65536) (hb : b ≤ 65536) (hc : c ≤ 65536) (hd : d ≤ 65536) :
    Calls Tryz.prog 423 #[.agg #[.int .i64 a, .int .i64 b], .agg #[.int .i64 c, .int .i64 d]] w fun e w' => e = .returned (.bool (Md.slApart (a, b) (c, d))) ∧ Below w.heap.size w w' := by
  have b0 : Below w.heap.size w ((w.alloc (.cells #[.int .i64 a, .int .i64 b] 497)).alloc (.cells #[.int .i64 c, .int .i64 d] 497)) := ((Below.refl _ _).alloc (Nat.le_refl _) _).alloc (by simp) _
  by_cases h1 : b = 0
  · subst h1
    go_enter Tryz.func423, Tryz.ntmps423
    go_wp2
    go_ret
    exact ⟨rfl, b0⟩
  · have g1 : ((b : Int) == 0) = false := by rw [beq_eq_false_iff_ne]; omega
    have k1 : (b == 0) = false := by rw [beq_eq_false_iff_ne]; exact h1
    by_cases h2 : d = 0
    · subst h2
      have H := Lib.hid (show Md.slApart (a, b) (c, 0) = true by simp [Md.slApart])
      clear h1 k1
      go_enter Tryz.func423, Tryz.ntmps423
      go_wp2
      go_ret
      exact ⟨retb H.out, b0⟩
    · have g2 : ((d : Int) == 0) = false := by rw [beq_eq_false_iff_ne]; omega
      have H := Lib.hid (show Md.slApart (a, b) (c, d) = (decide ((a : Int) + b ≤ c) || decide ((c : Int) + d ≤ a)) by
        simp only [Md.slApart, beq_eq_false_iff_ne.2 h1, beq_eq_false_iff_ne.2 h2, Bool.false_or]
        congr 1 <;> exact decide_eq_decide.2 (by omega))
      clear h1 h2 k1
      go_enter Tryz.func423, Tryz.ntmps423
      go_wp2
      all_goals go_ret
      all_goals first | exact ⟨retb H.out, b0⟩ | exact ⟨retb (H.out.trans (by simp [*])), b0⟩

theorem sound_fails (heap : Nat) (seen : List Md.Slot) (x : Md.Slot) (r : List Md.Slot) (h : (decide (heap ≤ x.1) && decide (x.1 + x.2 ≤ 232) && seen.all (Md.slApart x)) = false) : Md.slSound heap seen (x :: r) = false := by
  rw [Md.slSound, h, Bool.false_and]
theorem sound_goes (heap : Nat) (seen : List Md.Slot) (x : Md.Slot) (r : List Md.Slot) (h1 : heap ≤ x.1) (h2 : x.1 + x.2 ≤ 232) (h3 : seen.all (Md.slApart x) = true) : Md.slSound heap seen (x :: r) = Md.slSound heap (seen ++ [x]) r := by
  rw [Md.slSound, h3]; simp [h1, h2]
theorem drop_at {α : Type} {l : List α} {k : Nat} (h : k < l.length) : l.drop k = l[k] :: l.drop (k + 1) := List.drop_eq_getElem_cons h
theorem all_take_snoc {α : Type} (p : α → Bool) (l : List α) {j : Nat} (h : j < l.length) : (l.take (j + 1)).all p = ((l.take j).all p && p l[j]) := by
  rw [List.take_succ_eq_append_getElem h, List.all_append]; simp

def checkE (b : Str) : Int := Md.eno (Md.slCheck b)
theorem slList_length (b : Str) : (Md.slList b).length = Md.at2 b 0 := by simp [Md.slList]
theorem slList_lt (b : Str) {k : Nat} (h : k < (Md.slList b).length) : (Md.slList b)[k].1 ≤ 65536 ∧ (Md.slList b)[k].2 ≤ 65536 := by
  have h1 := at2_lt b (4 + 4 * k); have h2 := at2_lt b (6 + 4 * k)
  simp only [Md.slList, List.getElem_map, List.getElem_range]
  omega
/-- a row of slots, place by place -/
theorem slot_cells {w : World} {B g n cap : Nat} {l : List Md.Slot} (h : w.ownsRow B 497 2 (.slice (some ⟨g, 0, none⟩) n cap) n (slotv l)) {k : Nat} (hk : k < l.length) (hn : n = l.length) :
    w.cell? ⟨g, k * 2, none⟩ = some (.int .i64 (l[k].1 : Nat)) ∧ w.cell? ⟨g, k * 2 + 1, none⟩ = some (.int .i64 (l[k].2 : Nat)) := by
  have := slotv_get l hk
  exact ⟨(h.cellAt (k * 2) (by omega)).trans this.1, (h.cellAt (k * 2 + 1) (by omega)).trans this.2⟩
theorem own_cap {w : World} {B : Nat} {e : TypeId} {sz : Nat} {o : Option Addr} {n n' cap : Nat} {xs : List Value} (h : w.ownsRow B e sz (.slice o n' cap) n xs) : n ≤ cap ∧ n' = n := by
  rcases h.2 with ⟨h1, h2⟩ | ⟨g, c, cur, hv, _, _, h3, _⟩
  · simp only [Value.slice.injEq] at h1; omega
  · simp only [Value.slice.injEq] at hv; omega

set_option maxRecDepth 100000 in
set_option maxHeartbeats 2000000 in
theorem check_any (b : Str) (w : World) (hb : b.length ≤ 100000) :
    Calls Tryz.prog 394 #[S b] w fun e w' => e = .returned (.int .i64 (checkE b)) ∧ Below w.heap.size w w' := by
  by_cases h1 : ¬ b.length = 232
  · have H := Lib.hid (show checkE b = 6 by rw [checkE, Md.slCheck, if_pos h1]; rfl)
    have hne : ((b.length : Int) != 232) = true := by rw [bne_iff_ne]; omega
    clear h1
    go_enter Tryz.func394, Tryz.ntmps394
    go_wp2_with fail
    go_ret
    exact ⟨ret1 H.out, Below.refl _ _⟩
  · have h1 : b.length = 232 := by omega
    have hne : ((b.length : Int) != 232) = false := by rw [h1]; rfl
    have H0 := Lib.hid h1
    have hN := at2_lt b 0
    have hH := at2_lt b 2
    have hbl : 231 < b.length := by omega
    clear h1
    by_cases h2 : 232 < Md.at2 b 2
    · have H := Lib.hid (show checkE b = 14 by rw [checkE, Md.slCheck, if_neg (by rw [H0.out]; simp), if_pos (Or.inl h2)]; rfl)
      go_enter Tryz.func394, Tryz.ntmps394
      go_wp2_with (go_at_call 397; refine (two_int b _ _ hb (by omega) (by omega)).mono ?_; rintro e w1 ⟨rfl, d, rfl⟩)
      go_ret
      exact ⟨ret1 H.out, below_drewN (Below.refl _ _) _⟩
    · by_cases h3 : Md.at2 b 2 < 4 + 4 * Md.at2 b 0
      · have H := Lib.hid (show checkE b = 14 by rw [checkE, Md.slCheck, if_neg (by rw [H0.out]; simp), if_pos (Or.inr h3)]; rfl)
        go_enter Tryz.func394, Tryz.ntmps394
        go_wp2_with (go_at_call 397; refine (two_int b _ _ hb (by omega) (by omega)).mono ?_; rintro e w1 ⟨rfl, d, rfl⟩)
        go_ret
        exact ⟨ret1 H.out, below_drewN (Below.refl _ _) _⟩
      · have HF := Lib.hid (show checkE b = if Md.slSound (Md.at2 b 2) [] (Md.slList b) then 0 else 14 by
          rw [checkE, Md.slCheck, if_neg (by rw [H0.out]; simp), if_neg (by omega)]; split <;> rfl)
        go_enter Tryz.func394, Tryz.ntmps394
        go_wp2_with (first
          | (go_at_call 397; refine (two_int b _ _ hb (by omega) (by omega)).mono ?_; rintro e w1 ⟨rfl, d, rfl⟩)
          | (go_at_call 395; refine (slList_any b _ hb (by omega)).mono ?_; rintro e w2 ⟨u, rfl, hown, hbel⟩; obtain ⟨o, cap, rfl⟩ := Fm_slice hown))
        have own0 := own_le hown (Nat.zero_le _)
        have bel0 := Fm_next (below_drewN (Below.refl w.heap.size w) _) hbel (Nat.le_refl _)
        have hLl := slList_length b
        have hLt := fun k h => slList_lt b (k := k) h
        have HF := HF
        generalize Md.slList b = L at own0 HF hLl hLt
        generalize Md.at2 b 2 = hp at HF h2 h3
        generalize hN0 : Md.at2 b 0 = N at own0 hLl h3 hN
        have HLl := Lib.hid hLl
        have HLt := Lib.hid hLt
        clear hLl hLt hown hbel hN0
        go_loopw [31] (fun i wr => ∃ k : Nat, k ≤ N ∧ i = .int .i64 k ∧ wr.ownsRow 0 497 2 (.slice o N cap) N (slotv L) ∧ Below w.heap.size w wr ∧ Md.slSound hp [] L = Md.slSound hp (L.take k) (L.drop k)) (fun i _ => N - (intOf i).toNat)
        case atStart => exact ⟨0, Nat.zero_le _, rfl, own0, bel0, rfl⟩
        case round =>
          obtain ⟨k, hk, rfl, own1, bel1, hinv⟩ := hrel
          have HI := Lib.hid hinv
          clear hinv own0 bel0
          have hcap := (own_cap own1).1
          by_cases hlt : k < N
          · obtain ⟨g, cap', he, _, hgl⟩ := own_form own1 (by omega)
            simp only [Value.slice.injEq, true_and] at he
            obtain ⟨rfl, rfl⟩ := he
            have hkL : k < L.length := by rw [HLl.out]; exact hlt
            obtain ⟨ca, cb⟩ := slot_cells own1 hkL HLl.out.symm
            have hxl := HLt.out k hkL
            have HD := Lib.hid (drop_at hkL)
            have HT := Lib.hid (List.take_succ_eq_append_getElem hkL)
            obtain ⟨⟨x0, x1⟩, hx⟩ : ∃ x, x = L[k] := ⟨_, rfl⟩
            rw [← hx] at ca cb hxl HD HT
            have HX := Lib.hid hx
            clear hx
            simp only at ca cb hxl
            obtain ⟨hx0, hx1⟩ := hxl
            by_cases hA : hp ≤ x0 ∧ x0 + x1 ≤ 232
            · obtain ⟨hA0, hA1⟩ := hA
              have own2 := own1.alloc (.cells #[.int .i64 x0, .int .i64 x1] 497)
              have bel2 := bel1.alloc bel1.size (.cells #[.int .i64 x0, .int .i64 x1] 497)
              have hxb := heap_alloc_last wr (.cells #[.int .i64 x0, .int .i64 x1] 497)
              have hX := bel1.size
              have d1 : decide (x0 < hp) = false := by rw [decide_eq_false_iff_not]; omega
              have d2 : decide ((232 : Int) < (x0 : Int) + (x1 : Int)) = false := by rw [decide_eq_false_iff_not]; omega
              go_wp2_with fail
              obtain ⟨X, hXe⟩ : ∃ X, X = wr.heap.size := ⟨_, rfl⟩
              rw [← hXe] at hxb hgl hX ⊢
              generalize World.alloc wr _ = wo at own2 bel2 hxb
              have HXe := Lib.hid hXe
              clear hXe ca cb own1 bel1
              go_loopw [2, 10, 52] (fun _ _ j w2 => ∃ m : Nat, m ≤ k ∧ j = .int .i64 m ∧ w2.ownsRow 0 497 2 (.slice (some ⟨g, 0, none⟩) N cap) N (slotv L) ∧ Below w.heap.size w w2 ∧ w2.heap[X]? = some (.cells #[.int .i64 x0, .int .i64 x1] 497 (0, 0)) ∧
                (L.take m).all (Md.slApart (x0, x1)) = true) (fun _ _ j _ => k - (intOf j).toNat)
              case atStart => exact ⟨0, Nat.zero_le _, rfl, own2, bel2, hxb, rfl⟩
              case round =>
                obtain ⟨m, hm, rfl, own3, bel3, hxb3, hall⟩ := hrel
                have HA := Lib.hid hall
                clear hall own2 bel2 hxb
                by_cases hmk : m < k
                · have hmL : m < L.length := by omega
                  obtain ⟨ca, cb⟩ := slot_cells own3 hmL HLl.out.symm
                  have hyl := HLt.out m hmL
                  have HS := Lib.hid (all_take_snoc (Md.slApart (x0, x1)) L hmL)
                  obtain ⟨⟨y0, y1⟩, hy⟩ : ∃ y, y = L[m] := ⟨_, rfl⟩
                  rw [← hy] at ca cb hyl HS
                  clear hy
                  simp only at ca cb hyl
                  obtain ⟨hy0, hy1⟩ := hyl
                  have cx0 := cell_at (i := 0) hxb3 rfl
                  have cx1 := cell_at (i := 1) hxb3 rfl
                  have hXl := lt_of_block hxb3
                  have own4 := own3.alloc (.cells #[.int .i64 y0, .int .i64 y1] 497)
                  have bel4 := bel3.alloc bel3.size (.cells #[.int .i64 y0, .int .i64 y1] 497)
                  have hxb4 := heap_alloc_lt hxb3 (.cells #[.int .i64 y0, .int .i64 y1] 497)
                  go_wp2_with fail
                  generalize hwa : World.alloc wr _ = wa at own4 bel4 hxb4
                  clear hwa
                  refine (apart_any x0 x1 y0 y1 _ hx0 hx1 hy0 hy1).mono ?_
                  rintro e w5 ⟨rfl, bel5⟩
                  have own6 := own_below own4 bel5
                  have bel6 := Fm_next bel4 bel5 bel4.size
                  have hxb6 := (bel5.block X (lt_of_block hxb4)).trans hxb4
                  clear own3 bel3 hxb3 own4 bel4 hxb4 bel5 ca cb cx0 cx1
                  cases hq : Md.slApart (x0, x1) (y0, y1) with
                  | true =>
                    rw [hq, HA.out] at HS
                    clear hq
                    go_wp2_with fail
                    go_roundw
                    case rel => exact ⟨m + 1, by omega, by go_num, own6, bel6, hxb6, HS.out⟩
                    case measure => simp [intOf]; omega
                  | false =>
                    rw [hq, HA.out] at HS
                    clear hq
                    have HB : Hid (checkE b = 14) := by
                      show _ = _
                      have : (L.take k).all (Md.slApart (x0, x1)) = false := by
                        cases hc : (L.take k).all (Md.slApart (x0, x1)) with
                        | false => rfl
                        | true =>
                          have h1 := HS.out
                          rw [Bool.and_false] at h1
                          have h2 := List.all_eq_true.1 hc
                          have h3 : (L.take (m + 1)).all (Md.slApart (x0, x1)) = true := List.all_eq_true.2 fun z hz => h2 z (by
                            have : L.take (m + 1) = (L.take k).take (m + 1) := by rw [List.take_take, Nat.min_eq_left (by omega)]
                            rw [this] at hz; exact List.mem_of_mem_take hz)
                          rw [h1] at h3; cases h3
                      rw [HF.out, HI.out, HD.out, sound_fails _ _ _ _ (by rw [this, Bool.and_false])]; rfl
                    go_wp2_with fail
                    go_ret
                    exact ⟨ret1 HB.out, bel6⟩
                · have hmk' : Hid (m = k) := by show _ = _; omega
                  rw [hmk'.out] at HA
                  go_wp2_with fail
                  go_roundw
                  case rel => exact ⟨k + 1, by omega, by go_num, own3, bel3, by rw [HI.out, HD.out, HT.out]; exact sound_goes _ _ _ _ hA0 hA1 HA.out⟩
                  case measure => simp [intOf]; omega
            · have HB : Hid (checkE b = 14) := by
                show _ = _
                rw [HF.out, HI.out, HD.out, sound_fails _ _ _ _ (by
                  rw [Bool.and_eq_false_iff, Bool.and_eq_false_iff]
                  left
                  by_cases h : hp ≤ x0
                  · right; simp only [decide_eq_false_iff_not]; omega
                  · left; simp only [decide_eq_false_iff_not]; omega)]; rfl
              have bel2 := bel1.alloc bel1.size (.cells #[.int .i64 x0, .int .i64 x1] 497)
              by_cases hp0 : hp ≤ x0
              · have hA1 : 232 < x0 + x1 := by omega
                go_wp2_with fail
                go_ret
                exact ⟨ret1 HB.out, bel2⟩
              · go_wp2_with fail
                go_ret
                exact ⟨ret1 HB.out, bel2⟩
          · have HB : Hid (checkE b = 0) := by
              show _ = _
              rw [HF.out, HI.out, List.drop_of_length_le (by rw [HLl.out]; omega)]; rfl
            go_wp2_with fail
            go_ret
            exact ⟨ret1 HB.out, bel1⟩
end Go.Proofs.YtkdjhegkcfmkoaaGreat
