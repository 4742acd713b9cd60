/- What Take, Turn and List of the document's own map of pages do, and how two lists of numbers are compared. -/
import Derived.Test.YtmkckichkmgemaaFr
import Derived.Deep.QuietTactic
import Derived.BigQuiet
namespace Go.Proofs.Ytmkckichkmgemaa
open Go.RowKit
namespace Fr
open Fm (has atE useE use leaveE leave idx idx_le idx_get idx_not takeE takeI take turn1 turn turnTo placesTo placesTo_le placesTo_yes placesTo_no places vals vals_snoc)

set_option maxHeartbeats 400000 in
theorem take_any (b : Nat) (v : Value) (l : List Int) (w : World) (h : At w b v l) :
    Calls Try.prog 30 #[.pointer (some ⟨b, 0, none⟩)] w fun e w' =>
      e = .returned (.tuple #[.int .i64 (takeI l), .int .i64 (takeE l)]) ∧ ∃ v', At w' b v' (take l) ∧ Keep (· = b) w w' ∧ (v' = v ∨ ∀ g, v'.ownBlock = some g → w.heap.size ≤ g) := by
  have hs := h.small
  have hle := idx_le l 0
  have hc := cell_of_one h.head
  obtain ⟨o, c, hv⟩ := Fm.slice_of_owns h.row
  rw [hv] at hc
  have HV := Lib.hid hv
  clear hv
  go_enter Try.func30, Try.ntmps30
  go_wp2
  go_loop [4] (fun i => ∃ k : Nat, k ≤ idx l 0 ∧ i = .int .i64 k) (fun i => l.length - (intOf i).toNat)
  case atStart => exact ⟨0, Nat.zero_le _, rfl⟩
  case round =>
    obtain ⟨k, hk, rfl⟩ := hrel
    by_cases hlt : k < l.length
    · obtain ⟨g, cap, hv, hd⟩ := h.cell hlt
      rw [HV.out] at hv
      simp only [Value.slice.injEq, true_and] at hv
      obtain ⟨rfl, rfl⟩ := hv
      by_cases he : k = idx l 0
      · have hi : idx l 0 < l.length := by omega
        have H1 := Lib.hid (show takeI l = k by rw [takeI, if_pos hi, he])
        have H2 := Lib.hid (show takeE l = 0 by rw [takeE, if_pos hi])
        have H3 := Lib.hid (show take l = l.set k 2 by rw [take, if_pos hi, he])
        rw [show l.getD k 0 = 0 by rw [he]; exact idx_get hi] at hd
        clear he
        go_wp2_with (go_at_call 33; refine (set_any b v l k 2 _ h hlt).mono ?_; rintro e w' ⟨rfl, v', ha, hkk, hvv⟩)
        go_ret2
        exact ⟨ret2 H1.out H2.out, v', by rw [H3.out]; exact ha, hkk, Or.inr hvv⟩
      · have hv := idx_not (show k < idx l 0 by omega)
        have hb : (l.getD k 0 == 0) = false := by rw [beq_eq_false_iff_ne]; exact hv
        generalize l.getD k 0 = x at hd hb hv
        clear hv
        go_wp2
        go_round
        case rel => exact ⟨k + 1, by omega, by go_num⟩
        case measure => simp [intOf]; omega
    · have hi : ¬ idx l 0 < l.length := by omega
      have H1 := Lib.hid (show takeI l = 0 by rw [takeI, if_neg hi])
      have H2 := Lib.hid (show takeE l = 11 by rw [takeE, if_neg hi])
      have H3 := Lib.hid (show take l = l by rw [take, if_neg hi])
      go_wp2
      go_ret2
      exact ⟨ret2 H1.out H2.out, v, by rw [H3.out]; exact h, Keep.refl _ _, Or.inl rfl⟩

theorem turn_snoc (p q : Int) (l : List Int) {k : Nat} (h : k < l.length) : (l.take (k + 1)).map (turn1 p q) = (l.take k).map (turn1 p q) ++ [turn1 p q (l.getD k 0)] := by
  rw [List.take_succ_eq_append_getElem h, List.map_append, List.getD_eq_getElem?_getD, List.getElem?_eq_getElem h]; rfl

set_option maxHeartbeats 1000000 in
set_option maxRecDepth 100000 in
theorem turn_any (b : Nat) (v : Value) (l : List Int) (q p : Int) (w : World) (h : At w b v l) :
    Calls Try.prog 29 #[.pointer (some ⟨b, 0, none⟩), .int .i64 q, .int .i64 p] w fun e w' =>
      e = .returned (.tuple #[]) ∧ ∃ v', At w' b v' (turn p q l) ∧ Keep (· = b) w w' ∧ ∀ g, v'.ownBlock = some g → w.heap.size ≤ g := by
  obtain ⟨i0, hti, hz0, hz1, hz2⟩ := info_parts Try.infoInt
  have hs := h.small
  have hb := lt_of_block h.head
  obtain ⟨o, c, hv⟩ := Fm.slice_of_owns h.row
  subst hv
  go_enter Try.func29, Try.ntmps29
  go_wp2
  go_loopw [6, 7, 8] (fun u i _ wr => ∃ k : Nat, k ≤ l.length ∧ i = .int .i64 k ∧ wr.ownsRow w.heap.size 3 1 u k (ivals ((l.take k).map (turn1 p q))) ∧ Below w.heap.size w wr) (fun _ i _ _ => l.length - (intOf i).toNat)
  case atStart => exact ⟨0, Nat.zero_le _, rfl, World.ownsRow_nil w _ _ _, Below.refl _ _⟩
  case round =>
    obtain ⟨k, hk, rfl, hown, hbel⟩ := hrel
    have hc := cell_of_one (Fm.Below.at hbel h.head)
    have hsz := hbel.size
    by_cases hlt : k < l.length
    · obtain ⟨g, cap, hv, hd⟩ := h.cell hlt
      simp only [Value.slice.injEq, true_and] at hv
      obtain ⟨rfl, rfl⟩ := hv
      have hg : g < w.heap.size := (h.row.lt g rfl).2
      have hx := (hbel.cell (p := ⟨g, k, none⟩) hg).trans hd
      have HP := Lib.hid (turn_snoc p q l hlt)
      obtain ⟨y, hy⟩ : ∃ y, y = turn1 p q (l.getD k 0) := ⟨_, rfl⟩
      rw [← hy] at HP
      generalize hm : (l.take k).map (turn1 p q) = m at hown HP
      have Hm := Lib.hid hm
      clear hm
      have key : ∀ (w1 : World) (u' : Value), w1.ownsRow w.heap.size 3 1 u' (k + 1) (ivals m ++ [.int .i64 y]) → w1.ownsRow w.heap.size 3 1 u' (k + 1) (ivals ((l.take (k + 1)).map (turn1 p q))) := by
        intro w1 u' h1
        rw [HP.out]
        simpa [ivals] using h1
      by_cases h2 : l.getD k 0 = 2
      · obtain rfl : y = q := by rw [hy, h2]; rfl
        rw [h2] at hx
        clear h2 hy hd
        go_wp2_with (at_builtin; refine wpList_append_own _ rfl _ _ 28 rfl w.heap.size 3 i0 (.int .i64 0) 1 8 Try.underlying28 hti hz0 hz1 hz2 rfl (by decide) _ _ _ rfl (hown.alloc _) ⟨wr.heap.size, 0, none⟩ 1 1 [.int .i64 y] rfl rfl ?c1 ?c2 ?c3 ?c4 ?c5 ?_)
        case c1 => intro j u hj; match j, hj with | 0, hj => simp at hj; subst hj; simp [Addr.add]
        case c2 => intro u hu; simp at hu; subst hu; rfl
        case c3 => unfold maxLen; omega
        case c4 => omega
        case c5 => simp; omega
        intro u' w1 hown1 hgrow _
        have hbel1 : Below w.heap.size w w1 := (hbel.alloc hsz _).grown hgrow (by simp; omega) (fun k h => (hown.lt k h).1)
        clear hgrow hown hbel
        go_wp2
        go_roundw
        case rel => exact ⟨k + 1, by omega, by go_num, key _ _ hown1, hbel1⟩
        case measure => simp [intOf]; omega
      · have b2 : (l.getD k 0 == 2) = false := by rw [beq_eq_false_iff_ne]; exact h2
        by_cases h3 : l.getD k 0 = 3
        · obtain rfl : y = p := by rw [hy, h3]; rfl
          rw [h3] at hx b2
          clear h3 h2 hy hd
          go_wp2_with (at_builtin; refine wpList_append_own _ rfl _ _ 28 rfl w.heap.size 3 i0 (.int .i64 0) 1 8 Try.underlying28 hti hz0 hz1 hz2 rfl (by decide) _ _ _ rfl (hown.alloc _) ⟨wr.heap.size, 0, none⟩ 1 1 [.int .i64 y] rfl rfl ?c1 ?c2 ?c3 ?c4 ?c5 ?_)
          case c1 => intro j u hj; match j, hj with | 0, hj => simp at hj; subst hj; simp [Addr.add]
          case c2 => intro u hu; simp at hu; subst hu; rfl
          case c3 => unfold maxLen; omega
          case c4 => omega
          case c5 => simp; omega
          intro u' w1 hown1 hgrow _
          have hbel1 : Below w.heap.size w w1 := (hbel.alloc hsz _).grown hgrow (by simp; omega) (fun k h => (hown.lt k h).1)
          clear hgrow hown hbel
          go_wp2
          go_roundw
          case rel => exact ⟨k + 1, by omega, by go_num, key _ _ hown1, hbel1⟩
          case measure => simp [intOf]; omega
        · have b3 : (l.getD k 0 == 3) = false := by rw [beq_eq_false_iff_ne]; exact h3
          have hy' : y = l.getD k 0 := by rw [hy, turn1, if_neg h3, if_neg h2]
          rw [← hy'] at hx b2 b3
          clear h3 h2 hy hy' hd
          go_wp2_with (at_builtin; refine wpList_append_own _ rfl _ _ 28 rfl w.heap.size 3 i0 (.int .i64 0) 1 8 Try.underlying28 hti hz0 hz1 hz2 rfl (by decide) _ _ _ rfl (hown.alloc _) ⟨wr.heap.size, 0, none⟩ 1 1 [.int .i64 y] rfl rfl ?c1 ?c2 ?c3 ?c4 ?c5 ?_)
          case c1 => intro j u hj; match j, hj with | 0, hj => simp at hj; subst hj; simp [Addr.add]
          case c2 => intro u hu; simp at hu; subst hu; rfl
          case c3 => unfold maxLen; omega
          case c4 => omega
          case c5 => simp; omega
          intro u' w1 hown1 hgrow _
          have hbel1 : Below w.heap.size w w1 := (hbel.alloc hsz _).grown hgrow (by simp; omega) (fun k h => (hown.lt k h).1)
          clear hgrow hown hbel
          go_wp2
          go_roundw
          case rel => exact ⟨k + 1, by omega, by go_num, key _ _ hown1, hbel1⟩
          case measure => simp [intOf]; omega
    · have hkl : Hid (k = l.length) := by show _ = _; omega
      have hh := Lib.hid (Fm.Below.at hbel h.head)
      have hf := free_of_one (Fm.Below.at hbel h.head)
      obtain ⟨o', c', hv'⟩ := Fm.slice_of_owns hown
      subst hv'
      have HO := Lib.hid hown
      clear hown
      go_wp2
      go_end0
      have ht : (l.take k).map (turn1 p q) = turn p q l := by rw [hkl.out, List.take_length]; rfl
      have hown : wr.ownsRow w.heap.size 3 1 (.slice o' k c') (turn p q l).length (ivals (turn p q l)) := by
        have := HO.out; rw [ht] at this; rw [show (turn p q l).length = k by rw [hkl.out, turn, List.length_map]]; exact this
      have hne : ∀ g, (Value.slice o' k c').ownBlock = some g → w.heap.size ≤ g := fun g hg => (hown.lt g hg).1
      refine ⟨rfl, _, ⟨one_setCell hh.out, own_le (ownsRow_setCell_other hown (a := ⟨b, 0, none⟩) (fun e => by have := hne _ e; simp at this; omega) _) (Nat.zero_le _), by simpa [turn] using hs, fun e => by have := hne _ e; omega⟩, Keep.setCell (S := (· = b)) (Keep.of_below (hbel.mono (Nat.le_refl _))) (p := ⟨b, 0, none⟩) (Or.inr rfl) _, hne⟩

set_option maxHeartbeats 800000 in
set_option maxRecDepth 100000 in
theorem list_any (b : Nat) (s : Value) (l : List Int) (v : Int) (w : World) (h : At w b s l) :
    Calls Try.prog 17 #[.pointer (some ⟨b, 0, none⟩), .int .i64 v] w fun e w' =>
      ∃ u, e = .returned u ∧ w'.ownsRow w.heap.size 3 1 u (places l v).length (vals (places l v)) ∧ Below w.heap.size w w' := by
  obtain ⟨i0, hi, hz0, hz1, hz2⟩ := info_parts Try.infoInt
  have hs := h.small
  obtain ⟨o, c, hv⟩ := Fm.slice_of_owns h.row
  subst hv
  go_enter Try.func17, Try.ntmps17
  go_wp2
  go_loopw [5, 6] (fun u i wr => ∃ k : Nat, k ≤ l.length ∧ i = .int .i64 k ∧ wr.ownsRow w.heap.size 3 1 u (placesTo l v k).length (vals (placesTo l v k)) ∧ Below w.heap.size w wr) (fun _ i _ => l.length - (intOf i).toNat)
  case atStart => exact ⟨0, Nat.zero_le _, rfl, World.ownsRow_nil w _ _ _, Below.refl _ _⟩
  case round =>
    obtain ⟨k, hk, rfl, hown, hbel⟩ := hrel
    have hc := cell_of_one (Fm.Below.at hbel h.head)
    have hsz := hbel.size
    by_cases hlt : k < l.length
    · obtain ⟨g, cap, hv, hd⟩ := h.cell hlt
      simp only [Value.slice.injEq, true_and] at hv
      obtain ⟨rfl, rfl⟩ := hv
      have hg : g < w.heap.size := (h.row.lt g rfl).2
      have hx := (hbel.cell (p := ⟨g, k, none⟩) hg).trans hd
      have hple := placesTo_le l v k
      cases hb : l.getD k 0 == v with
      | false =>
        have HP := Lib.hid (placesTo_no hb)
        generalize l.getD k 0 = x at hx hb
        go_wp2
        go_roundw
        case rel => exact ⟨k + 1, by omega, by go_num, by rw [HP.out]; exact hown, hbel⟩
        case measure => simp [intOf]; omega
      | true =>
        have HP := Lib.hid (placesTo_yes hb)
        generalize l.getD k 0 = x at hx hb
        go_wp2_with (at_builtin; refine wpList_append_own _ rfl _ _ 28 rfl w.heap.size 3 i0 (.int .i64 0) 1 8 Try.underlying28 hi hz0 hz1 hz2 rfl (by decide) _ _ _ rfl (hown.alloc _) ⟨wr.heap.size, 0, none⟩ 1 1 [.int .i64 (k : Int)] rfl rfl ?c1 ?c2 ?c3 ?c4 ?c5 ?_)
        case c1 => intro j u hj; match j, hj with | 0, hj => simp at hj; subst hj; simp [Addr.add]
        case c2 => intro u hu; simp at hu; subst hu; rfl
        case c3 => unfold maxLen; omega
        case c4 => omega
        case c5 => simp; omega
        intro u' w1 hown1 hgrow _
        have hbel1 : Below w.heap.size w w1 := (hbel.alloc hsz _).grown hgrow (by simp; omega) (fun k h => (hown.lt k h).1)
        clear hgrow hown hbel
        go_wp2
        go_roundw
        case rel => exact ⟨k + 1, by omega, by go_num, by rw [HP.out, vals_snoc, List.length_append]; exact hown1, hbel1⟩
        case measure => simp [intOf]; omega
    · have hkl : Hid (k = l.length) := by show _ = _; omega
      go_wp2
      go_ret
      exact ⟨_, rfl, by rw [show places l v = placesTo l v k by rw [hkl.out]; rfl]; exact hown, hbel⟩

def intsB (a b : List Int) : Bool := decide (a = b)
theorem intsB_of_take {a b : List Int} (h : a.length = b.length) {k : Nat} (hk : k ≤ a.length) (ht : a.take k = b.take k) (h1 : ¬ k < a.length) : intsB a b = true := by
  have e : k = a.length := by omega
  rw [e, List.take_length, h, List.take_length] at ht
  simp [intsB, ht]
theorem take_next {a b : List Int} {k : Nat} (h : a.take k = b.take k) (ha : k < a.length) (hb : k < b.length) (e : a.getD k 0 = b.getD k 0) : a.take (k + 1) = b.take (k + 1) := by
  rw [List.take_succ_eq_append_getElem ha, List.take_succ_eq_append_getElem hb, h]
  simp only [List.getD_eq_getElem?_getD, List.getElem?_eq_getElem ha, List.getElem?_eq_getElem hb, Option.getD_some] at e
  rw [e]
theorem intsB_not {a b : List Int} {k : Nat} (e : a.getD k 0 ≠ b.getD k 0) : intsB a b = false := by
  simp only [intsB, decide_eq_false_iff_not]; exact fun h => e (by rw [h])

set_option maxHeartbeats 800000 in
theorem ints_any (u v : Value) (a b : List Int) (w : World) (hu : w.ownsRow 0 3 1 u a.length (ivals a)) (hv : w.ownsRow 0 3 1 v b.length (ivals b)) (ha : a.length ≤ 2147483648) (hb : b.length ≤ 2147483648) :
    Calls Try.prog 15 #[u, v] w fun e w' => e = .returned (.bool (intsB a b)) ∧ ∃ n, w' = w.drewN n := by
  obtain ⟨o, c, rfl⟩ := Fm.slice_of_owns hu
  obtain ⟨o', c', rfl⟩ := Fm.slice_of_owns hv
  by_cases hl : a.length = b.length
  · have HL := Lib.hid hl
    have hne : ((a.length : Int) != (b.length : Int)) = false := by rw [hl]; simp
    clear hl
    go_enter Try.func15, Try.ntmps15
    go_wp2
    go_loopw [5] (fun i wr => ∃ k : Nat, k ≤ a.length ∧ i = .int .i64 k ∧ a.take k = b.take k ∧ ∃ n, wr = w.drewN n) (fun i _ => a.length - (intOf i).toNat)
    case atStart => exact ⟨0, Nat.zero_le _, rfl, rfl, 0, rfl⟩
    case round =>
      obtain ⟨k, hk, rfl, ht, n, rfl⟩ := hrel
      have HT := Lib.hid ht
      clear ht
      by_cases hlt : k < a.length
      · have hlt' : k < b.length := by rw [← HL.out]; exact hlt
        obtain ⟨g, cap, he, _⟩ := own_form hu (by omega)
        simp only [Value.slice.injEq, true_and] at he
        obtain ⟨rfl, rfl⟩ := he
        obtain ⟨g', cap', he, _⟩ := own_form hv (by omega)
        simp only [Value.slice.injEq, true_and] at he
        obtain ⟨rfl, rfl⟩ := he
        have hx := (hu.cellAt k (by omega)).trans (ivals_get hlt)
        have hy := (hv.cellAt k (by omega)).trans (ivals_get hlt')
        by_cases e : a.getD k 0 = b.getD k 0
        · have HE := Lib.hid (take_next HT.out hlt hlt' e)
          have hne : (a.getD k 0 != b.getD k 0) = false := by rw [e]; simp
          clear e
          generalize a.getD k 0 = x at hx hne
          generalize b.getD k 0 = y at hy hne
          go_wp2
          go_quiet (fail)
          go_wp2
          go_roundw
          case rel => exact ⟨k + 1, by omega, by go_num, HE.out, _, rfl⟩
          case measure => simp [intOf]; omega
        · have HE := Lib.hid (intsB_not e)
          have hne : (a.getD k 0 != b.getD k 0) = true := by rw [bne_iff_ne]; exact e
          clear e
          generalize a.getD k 0 = x at hx hne
          generalize b.getD k 0 = y at hy hne
          go_wp2
          go_quiet (fail)
          go_wp2
          go_ret
          exact ⟨retb HE.out, _, World.drewN_drewN _ _ _⟩
      · have HE := Lib.hid (intsB_of_take HL.out hk HT.out hlt)
        go_wp2
        go_ret
        exact ⟨retb HE.out, _, rfl⟩
  · have HE : Hid (intsB a b = false) := by show _ = _; simp only [intsB, decide_eq_false_iff_not]; exact fun h => hl (by rw [h])
    have hne : ((a.length : Int) != (b.length : Int)) = true := by rw [bne_iff_ne]; omega
    clear hl
    go_enter Try.func15, Try.ntmps15
    go_wp2
    go_ret
    exact ⟨retb HE.out, 0, rfl⟩

end Fr
end Go.Proofs.Ytmkckichkmgemaa
