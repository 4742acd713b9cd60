/- What the document's own map of pages (horologeref12) does: it makes its list anew at each change. -/
import Derived.Test.YtmkckichkmgemaaFm3
namespace Go.Proofs.Ytmkckichkmgemaa
open Go.RowKit
namespace Fr
open Fm (has atE useE use leaveE leave idx takeE takeI take turn1 turn turnTo placesTo places vals)

def ivals (l : List Int) : List Value := l.map (Value.int .i64)
theorem ivals_get {l : List Int} {i : Nat} (h : i < l.length) : (ivals l)[i]? = some (.int .i64 (l.getD i 0)) := by simp [ivals, List.getD, h]
theorem ivals_length (l : List Int) : (ivals l).length = l.length := by simp [ivals]
theorem ivals_set (l : List Int) (i : Nat) (n : Int) : (ivals l).set i (.int .i64 n) = ivals (l.set i n) := by simp [ivals, List.map_set]

structure At (w : World) (b : Nat) (v : Value) (l : List Int) : Prop where
  head : w.heap[b]? = some (.cells #[v] 42 (0, 0))
  row : w.ownsRow 0 3 1 v l.length (ivals l)
  small : l.length ≤ 1024
  apart : v.ownBlock ≠ some b

theorem At.keep {w w' : World} {b : Nat} {v : Value} {l : List Int} {S : Nat → Prop} (h : At w b v l) (k : Keep S w w') (hb : ¬ S b) (ha : ∀ g, v.ownBlock = some g → ¬ S g) : At w' b v l := by
  refine ⟨k.at h.head hb, ⟨h.row.1, ?_⟩, h.small, h.apart⟩
  rcases h.row.2 with h2 | ⟨g, cap, cur, hv, hg, hh, r⟩
  · exact Or.inl h2
  · exact Or.inr ⟨g, cap, cur, hv, hg, k.at hh (ha g (by rw [hv]; rfl)), r⟩

theorem At.cell {w : World} {b : Nat} {v : Value} {l : List Int} (h : At w b v l) {i : Nat} (hi : i < l.length) :
    ∃ g cap, v = .slice (some ⟨g, 0, none⟩) l.length cap ∧ w.cell? ⟨g, i, none⟩ = some (.int .i64 (l.getD i 0)) := by
  obtain ⟨g, cap, rfl, _, _⟩ := own_form h.row (by omega)
  exact ⟨g, cap, rfl, by rw [h.row.cellAt i (by omega), ivals_get hi]⟩

set_option maxHeartbeats 400000 in
theorem at_any (b : Nat) (v : Value) (l : List Int) (i : Int) (w : World) (h : At w b v l) :
    Calls Try.prog 32 #[.pointer (some ⟨b, 0, none⟩), .int .i64 i] w fun e w' => e = .returned (.int .i64 (atE l i)) ∧ w = w' := by
  have hs := h.small
  have hc := cell_of_one h.head
  obtain ⟨o, c, hv⟩ := Fm.slice_of_owns h.row
  rw [hv] at hc
  by_cases h0 : 0 ≤ i
  · by_cases h1 : i < l.length
    · have he := Lib.hid (show atE l i = 0 by simp [atE, has, h0, h1])
      clear hv
      go_enter Try.func32, Try.ntmps32
      go_wp2
      go_ret
      exact ⟨ret1 he.out, rfl⟩
    · have he := Lib.hid (show atE l i = 3 by simp [atE, has, h1])
      clear hv
      go_enter Try.func32, Try.ntmps32
      go_wp2
      go_ret
      exact ⟨ret1 he.out, rfl⟩
  · have he := Lib.hid (show atE l i = 3 by simp [atE, has, h0])
    clear hv
    go_enter Try.func32, Try.ntmps32
    go_wp2
    go_ret
    exact ⟨ret1 he.out, rfl⟩

theorem own_le {w : World} {base base' size n : Nat} {e : TypeId} {v : Value} {xs : List Value} (h : w.ownsRow base e size v n xs) (hb : base' ≤ base) : w.ownsRow base' e size v n xs :=
  ⟨h.1, h.2.elim Or.inl (fun ⟨g, cap, cur, hv, hg, r⟩ => Or.inr ⟨g, cap, cur, hv, Nat.le_trans hb hg, r⟩)⟩
theorem own_keep {w w' : World} {B : Nat} {e : TypeId} {sz : Nat} {u : Value} {n : Nat} {xs : List Value} (h : w.ownsRow B e sz u n xs) {S : Nat → Prop} (k : Keep S w w') (ha : ∀ g, u.ownBlock = some g → ¬ S g) : w'.ownsRow B e sz u n xs := by
  refine ⟨h.1, ?_⟩
  rcases h.2 with h2 | ⟨g, cap, cur, hv, hg, hh, r⟩
  · exact Or.inl h2
  · exact Or.inr ⟨g, cap, cur, hv, hg, k.at hh (ha g (by rw [hv]; rfl)), r⟩

set_option maxHeartbeats 800000 in
set_option maxRecDepth 100000 in
theorem set_any (b : Nat) (v : Value) (l : List Int) (i : Nat) (x : Int) (w : World) (h : At w b v l) (hi : i < l.length) :
    Calls Try.prog 33 #[.pointer (some ⟨b, 0, none⟩), .int .i64 i, .int .i64 x] w fun e w' =>
      e = .returned (.tuple #[]) ∧ ∃ v', At w' b v' (l.set i x) ∧ Keep (· = b) w w' ∧ ∀ g, v'.ownBlock = some g → w.heap.size ≤ g := by
  obtain ⟨i0, hti, hz0, hz1, hz2⟩ := info_parts Try.infoInt
  have hs := h.small
  obtain ⟨g, cap, hv, _, hg⟩ := own_form h.row (by omega)
  subst hv
  have hc := cell_of_one h.head
  have hfz := free_of_one h.head
  have hb := lt_of_block h.head
  have hown := h.row
  have hcs : ∀ (j : Nat) u, (ivals l)[j]? = some u → w.cell? ((⟨g, 0, none⟩ : Addr).add j) = some u := hown.cells (g := g) rfl
  go_enter Try.func33, Try.ntmps33
  go_wp2_with (at_builtin; refine wpList_append_own _ rfl _ _ 28 rfl w.heap.size 3 i0 (.int .i64 0) 1 8 Try.underlying28 hti hz0 hz1 hz2 rfl (by decide) (.slice (some ⟨w.heap.size, 0, none⟩) 0 0) 0 [] rfl (World.ownsRow_made w #[] 0 (Nat.le_refl _) (Nat.zero_le _) rfl) ⟨g, 0, none⟩ l.length cap (ivals l) rfl ?c0 ?c1 ?c2 ?c3 ?c4 ?c5 ?_)
  case c0 => rw [ivals_length, Nat.mul_one]
  case c1 =>
    intro j u hj
    have := hcs j u hj
    rw [← this]
    rw [addr_add]
    exact World.cell?_alloc_past _ _ _ (by simpa using hg)
  case c2 => intro u hu; simp only [ivals, List.mem_map] at hu; obtain ⟨y, _, rfl⟩ := hu; rfl
  case c3 => unfold maxLen; omega
  case c4 => omega
  case c5 => simp
  intro u' w1 hown1 hgrow _
  obtain ⟨g', cap', rfl, hg', hlt'⟩ := own_form hown1 (by omega)
  have hb1 : Below w.heap.size w w1 := ((Below.refl _ _).alloc (Nat.le_refl _) _).grown hgrow (by simp) (fun k h => by simp [Value.ownBlock] at h; omega)
  have hh1 := Fm.Below.at hb1 h.head
  clear hgrow
  have hst := hown1.stored i (.int .i64 x)
  have hf1 := hown1.frozenAt i
  have hc1 : w1.cell? ⟨g', i, none⟩ = some (.int .i64 (l.getD i 0)) := by rw [hown1.cellAt i (by omega), ivals_get hi]
  have hcb := cell_of_one hh1
  have hfb := free_of_one hh1
  have hne : ¬ b = g' := by omega
  have HH := Lib.hid hh1
  have HS := Lib.hid hst
  clear hst hh1 hown hown1 hcs
  go_wp2
  go_end0
  refine ⟨rfl, .slice (some ⟨g', 0, none⟩) l.length cap', ⟨?_, ?_, by simpa using hs, ?_⟩, ?_, ?_⟩
  · refine one_setCell (v := .slice (some ⟨g, 0, none⟩) l.length cap) ?_
    rw [setCell_other _ hne]; exact HH.out
  · rw [← ivals_set, List.length_set]
    exact own_le (ownsRow_setCell_other HS.out.1 (a := ⟨b, 0, none⟩) (by simp [Value.ownBlock]; omega) _) (Nat.zero_le _)
  · simp [Value.ownBlock]; omega
  · exact Keep.setCell (S := (· = b)) (Keep.setCell (S := (· = b)) (Keep.of_below hb1) (p := ⟨g', i, none⟩) (Or.inl hg') _) (p := ⟨b, 0, none⟩) (Or.inr rfl) _
  · intro k hk; simp [Value.ownBlock] at hk; omega

set_option maxHeartbeats 400000 in
theorem use_any (b : Nat) (v : Value) (l : List Int) (i : Int) (w : World) (h : At w b v l) :
    Calls Try.prog 27 #[.pointer (some ⟨b, 0, none⟩), .int .i64 i] w fun e w' =>
      e = .returned (.int .i64 (useE l i)) ∧ ∃ v', At w' b v' (use l i) ∧ Keep (· = b) w w' ∧ (v' = v ∨ ∀ g, v'.ownBlock = some g → w.heap.size ≤ g) := by
  have hs := h.small
  cases hh : has l i with
  | false =>
    have H := Lib.hid hh; clear hh
    have H0 := Lib.hid (show atE l i = 3 by simp [atE, H.out])
    have H1 := Lib.hid (show useE l i = 3 by simp [useE, H.out])
    have H2 := Lib.hid (show use l i = l by simp [use, H.out])
    go_enter Try.func27, Try.ntmps27
    go_wp2_with (go_at_call 32; refine (at_any b v l i _ h).mono ?_; rintro e w' ⟨rfl, rfl⟩; rw [H0.out])
    go_ret
    exact ⟨ret1 H1.out, v, by rw [H2.out]; exact h, Keep.refl _ _, Or.inl rfl⟩
  | true =>
    have H := Lib.hid hh
    obtain ⟨h0, h1⟩ := Fm.has_iff.1 hh
    clear hh
    obtain ⟨n, rfl⟩ := Int.eq_ofNat_of_zero_le h0
    have hn : n < l.length := by omega
    obtain ⟨g, cap, rfl, hd⟩ := h.cell hn
    have hc := cell_of_one h.head
    have H0 := Lib.hid (show atE l n = 0 by simp [atE, H.out])
    by_cases hz : l.getD n 0 = 0
    · have H1 := Lib.hid (show useE l n = 0 by simp only [useE, H.out, Int.toNat_natCast, hz, if_true])
      have H2 := Lib.hid (show use l n = l.set n 1 by simp only [use, H.out, Int.toNat_natCast, hz, if_true])
      rw [hz] at hd
      clear hz
      go_enter Try.func27, Try.ntmps27
      go_wp2_with (first | (go_at_call 32; refine (at_any b _ l n _ h).mono ?_; rintro e w' ⟨rfl, rfl⟩; rw [H0.out]) | (go_at_call 33; refine (set_any b _ l n 1 _ h hn).mono ?_; rintro e w' ⟨rfl, v', ha, hk, hv⟩))
      go_ret
      exact ⟨ret1 H1.out, v', by rw [H2.out]; exact ha, hk, Or.inr hv⟩
    · have H1 := Lib.hid (show useE l n = 10 by simp only [useE, H.out, Int.toNat_natCast, if_true, if_neg hz])
      have H2 := Lib.hid (show use l n = l by simp only [use, H.out, Int.toNat_natCast, if_true, if_neg hz])
      have hb : (l.getD n 0 != 0) = true := by rw [bne_iff_ne]; exact hz
      generalize l.getD n 0 = x at hd hb
      clear hz
      go_enter Try.func27, Try.ntmps27
      go_wp2_with (go_at_call 32; refine (at_any b _ l n _ h).mono ?_; rintro e w' ⟨rfl, rfl⟩; rw [H0.out])
      go_ret
      exact ⟨ret1 H1.out, _, by rw [H2.out]; exact h, Keep.refl _ _, Or.inl rfl⟩

set_option maxHeartbeats 400000 in
theorem leave_any (b : Nat) (v : Value) (l : List Int) (i : Int) (w : World) (h : At w b v l) :
    Calls Try.prog 28 #[.pointer (some ⟨b, 0, none⟩), .int .i64 i] w fun e w' =>
      e = .returned (.int .i64 (leaveE l i)) ∧ ∃ v', At w' b v' (leave l i) ∧ Keep (· = b) w w' ∧ (v' = v ∨ ∀ g, v'.ownBlock = some g → w.heap.size ≤ g) := by
  have hs := h.small
  cases hh : has l i with
  | false =>
    have H := Lib.hid hh; clear hh
    have H0 := Lib.hid (show atE l i = 3 by simp [atE, H.out])
    have H1 := Lib.hid (show leaveE l i = 3 by simp [leaveE, H.out])
    have H2 := Lib.hid (show leave l i = l by simp [leave, H.out])
    go_enter Try.func28, Try.ntmps28
    go_wp2_with (go_at_call 32; refine (at_any b v l i _ h).mono ?_; rintro e w' ⟨rfl, rfl⟩; rw [H0.out])
    go_ret
    exact ⟨ret1 H1.out, v, by rw [H2.out]; exact h, Keep.refl _ _, Or.inl rfl⟩
  | true =>
    have H := Lib.hid hh
    obtain ⟨h0, h1⟩ := Fm.has_iff.1 hh
    clear hh
    obtain ⟨n, rfl⟩ := Int.eq_ofNat_of_zero_le h0
    have hn : n < l.length := by omega
    obtain ⟨g, cap, rfl, hd⟩ := h.cell hn
    have hc := cell_of_one h.head
    have H0 := Lib.hid (show atE l n = 0 by simp [atE, H.out])
    by_cases h2 : l.getD n 0 = 2
    · have H1 := Lib.hid (show leaveE l n = 0 by simp only [leaveE, H.out, Int.toNat_natCast, h2, if_true, true_or])
      have H2 := Lib.hid (show leave l n = l.set n 0 by simp only [leave, H.out, Int.toNat_natCast, h2, if_true])
      rw [h2] at hd
      clear h2
      go_enter Try.func28, Try.ntmps28
      go_wp2_with (first | (go_at_call 32; refine (at_any b _ l n _ h).mono ?_; rintro e w' ⟨rfl, rfl⟩; rw [H0.out]) | (go_at_call 33; refine (set_any b _ l n 0 _ h hn).mono ?_; rintro e w' ⟨rfl, v', ha, hk, hv⟩))
      go_ret
      exact ⟨ret1 H1.out, v', by rw [H2.out]; exact ha, hk, Or.inr hv⟩
    · by_cases h1 : l.getD n 0 = 1
      · have H1 := Lib.hid (show leaveE l n = 0 by simp only [leaveE, H.out, Int.toNat_natCast, h1, if_true, or_true])
        have H2 := Lib.hid (show leave l n = l.set n 3 by simp only [leave, H.out, Int.toNat_natCast, if_true]; rw [if_neg h2, if_pos h1])
        rw [h1] at hd
        clear h1 h2
        go_enter Try.func28, Try.ntmps28
        go_wp2_with (first | (go_at_call 32; refine (at_any b _ l n _ h).mono ?_; rintro e w' ⟨rfl, rfl⟩; rw [H0.out]) | (go_at_call 33; refine (set_any b _ l n 3 _ h hn).mono ?_; rintro e w' ⟨rfl, v', ha, hk, hv⟩))
        go_ret
        exact ⟨ret1 H1.out, v', by rw [H2.out]; exact ha, hk, Or.inr hv⟩
      · have H1 := Lib.hid (show leaveE l n = 9 by simp only [leaveE, H.out, Int.toNat_natCast, if_true]; rw [if_neg (fun e => e.elim h2 h1)])
        have H2 := Lib.hid (show leave l n = l by simp only [leave, H.out, Int.toNat_natCast, if_true]; rw [if_neg h2, if_neg h1])
        have b2 : (l.getD n 0 == 2) = false := by rw [beq_eq_false_iff_ne]; exact h2
        have b1 : (l.getD n 0 == 1) = false := by rw [beq_eq_false_iff_ne]; exact h1
        clear h1 h2
        generalize l.getD n 0 = x at hd b1 b2
        go_enter Try.func28, Try.ntmps28
        go_wp2_with (go_at_call 32; refine (at_any b _ l n _ h).mono ?_; rintro e w' ⟨rfl, rfl⟩; rw [H0.out])
        go_ret
        exact ⟨ret1 H1.out, _, by rw [H2.out]; exact h, Keep.refl _ _, Or.inl rfl⟩

end Fr
end Go.Proofs.Ytmkckichkmgemaa
