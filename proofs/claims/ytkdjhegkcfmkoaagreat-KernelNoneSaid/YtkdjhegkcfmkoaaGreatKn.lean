/- KernelNone: a nil kernel does nothing, and there is none without a disk. No condition. -/
import Derived.Test.YtkdjhegkcfmkoaaGreatLt
import Derived.Test.YtkdjhegkcfmkoaaGreatNl
import Derived.Test.YtkdjhegkcfmkoaaGreatEv
namespace Go.Proofs.YtkdjhegkcfmkoaaGreat
open Go.ChangeShapes Go.WideShapes Go.ChangeAt Go.RowKit
open Go.AM
theorem awake_any (w : World) : Calls Tryz.prog 5 #[] w fun e w' => e = .returned (.bool true) ∧ Below w.heap.size w w' := by
  obtain ⟨r, h', h1, h2⟩ := AM.call_alone (by kernel_rfl) AM.awakeRuns
  obtain ⟨b, rfl, hb⟩ := onBool_spec h1
  have hb : b = true := hb
  subst hb
  refine (h2 #[] w (by rw [RL_nil])).mono ?_
  rintro e w' ⟨φ', r', rfl, q1, _, q2⟩
  exact ⟨by rw [RV_bool.1 q1], q2⟩
theorem Rows2.below {w w' : World} {a : Option Addr} {n st of : Nat} (h : Rows2 w a n st of) (hb : Below w.heap.size w w') : Rows2 w' a n st of := fun i hi => by
  obtain ⟨g, off, h1, h2, x, k, c, h3⟩ := h i hi
  refine ⟨g, off, h1, Nat.lt_of_lt_of_le h2 hb.size, x, k, c, ?_⟩
  unfold World.cell? at h3 ⊢
  rw [hb.block g h2]; exact h3
theorem bnext {a b c : World} {B : Nat} (h : Below B a b) (k : Below b.heap.size b c) (hB : B ≤ b.heap.size) : Below B a c := h.trans (k.mono hB)

set_option maxRecDepth 100000 in
set_option maxHeartbeats 4000000 in
theorem none_walk (w : World) (v : Value) (n : Int) (seed : Int) (en : Nat) (da : Option Addr) (dn dc : Nat) (pa : Option Addr) (pn pc : Nat) (la : Option Addr) (ln lc : Nat) (ia : Option Addr) (iN ic : Nat)
    (h : ModelIn w v seed en da dn dc pa pn pc la ln lc ia iN ic) :
    Calls Tryz.prog 3 #[v, .int .i64 n] w fun e w' => e = .returned (.bool true) ∧ Below w.heap.size w w' := by
  obtain ⟨rfl, hp, hl⟩ := h
  have b0 : Below w.heap.size w (w.alloc (.cells #[.int .i64 seed, .float .f64 en, .slice da dn dc, .slice pa pn pc, .slice la ln lc, .slice ia iN ic] 28)) := (Below.refl _ _).alloc (Nat.le_refl _) _
  have HM := Lib.hid (show ModelIn (w.alloc (.cells #[.int .i64 seed, .float .f64 en, .slice da dn dc, .slice pa pn pc, .slice la ln lc, .slice ia iN ic] 28)) _ seed en da dn dc pa pn pc la ln lc ia iN ic from ⟨rfl, hp.below b0, hl.below b0⟩)
  clear hp hl
  have h6 : ∀ y ∈ [Value.int .i64 seed, .float .f64 en, .slice da dn dc, .slice pa pn pc, .slice la ln lc, .slice ia iN ic], y.oneCell' = true := by
    intro y hy
    simp only [List.mem_cons, List.mem_singleton, List.not_mem_nil, or_false] at hy
    rcases hy with rfl | rfl | rfl | rfl | rfl | rfl <;> rfl
  have H6 := Lib.hid h6
  clear h6
  go_enter Tryz.func3, Tryz.ntmps3
  have hw := heap_alloc_last w (.cells #[.int .i64 seed, .float .f64 en, .slice da dn dc, .slice pa pn pc, .slice la ln lc, .slice ia iN ic] 28)
  have B := Lib.hid b0
  clear b0
  go_wp2_with (first
    | (go_at_call 4; refine (light_any _ _ _ _ _ _ _ _ _ _ _ _ _ _ _ _ HM.out).mono ?_; rintro e w1 ⟨⟨b, rfl⟩, b1⟩; have hw := (b1.block _ (lt_of_block hw)).trans hw; have B := Lib.hid (bnext B.out b1 B.out.size); clear b1 HM; cases b)
    | (go_at_call 6; refine (AM.round_nil _).mono ?_; rintro e w1 ⟨rfl, b1⟩; have hw := (b1.block _ (lt_of_block hw)).trans hw; have B := Lib.hid (bnext B.out b1 B.out.size); clear b1)
    | (go_at_call 7; refine (AM.history_nil _ _ _).mono ?_; rintro e w1 ⟨rfl, b1⟩; have hw := (b1.block _ (lt_of_block hw)).trans hw; have B := Lib.hid (bnext B.out b1 B.out.size); clear b1)
    | (go_at_call 8; refine (AM.len_nil _).mono ?_; rintro e w1 ⟨rfl, b1⟩; have hw := (b1.block _ (lt_of_block hw)).trans hw; have B := Lib.hid (bnext B.out b1 B.out.size); clear b1)
    | (go_at_call 9; refine (AM.left_nil _).mono ?_; rintro e w1 ⟨rfl, b1⟩; have hw := (b1.block _ (lt_of_block hw)).trans hw; have B := Lib.hid (bnext B.out b1 B.out.size); clear b1)
    | (go_at_call 13; refine (AM.deliver_nil _ _).mono ?_; rintro e w1 ⟨rfl, b1⟩; have hw := (b1.block _ (lt_of_block hw)).trans hw; have B := Lib.hid (bnext B.out b1 B.out.size); clear b1)
    | (go_at_call 14; refine (AM.work_nil _ _).mono ?_; rintro e w1 ⟨rfl, b1⟩; have hw := (b1.block _ (lt_of_block hw)).trans hw; have B := Lib.hid (bnext B.out b1 B.out.size); clear b1)
    | (go_at_call 15; refine (AM.evict_nil _ _).mono ?_; rintro e w1 ⟨rfl, b1⟩; have hw := (b1.block _ (lt_of_block hw)).trans hw; have B := Lib.hid (bnext B.out b1 B.out.size); clear b1)
    | (go_at_call 16; refine (AM.lazy_nil _).mono ?_; rintro e w1 ⟨rfl, b1⟩; have hw := (b1.block _ (lt_of_block hw)).trans hw; have B := Lib.hid (bnext B.out b1 B.out.size); clear b1)
    | (go_at_call 18; refine (AM.model_nil _).mono ?_; rintro e w1 ⟨rfl, b1⟩; have hw := (b1.block _ (lt_of_block hw)).trans hw; have B := Lib.hid (bnext B.out b1 B.out.size); clear b1)
    | (go_at_call 19; refine (AM.pool_nil _).mono ?_; rintro e w1 ⟨rfl, b1⟩; have hw := (b1.block _ (lt_of_block hw)).trans hw; have B := Lib.hid (bnext B.out b1 B.out.size); clear b1)
    | (go_at_call 10; refine (AM.done_nil _).mono ?_; rintro e w1 ⟨rfl, b1⟩; have hw := (b1.block _ (lt_of_block hw)).trans hw; have B := Lib.hid (bnext B.out b1 B.out.size); clear b1; have c0 := cell_at (i := 0) hw rfl; have c1 := cell_at (i := 1) hw rfl; have c2 := cell_at (i := 2) hw rfl; have c3 := cell_at (i := 3) hw rfl; have c4 := cell_at (i := 4) hw rfl; have c5 := cell_at (i := 5) hw rfl)
    | (go_at_call 11; refine (AM.create_nil H6.out _ _).mono ?_; rintro e w1 ⟨rfl, b1⟩; have hw := (b1.block _ (lt_of_block hw)).trans hw; have B := Lib.hid (bnext B.out b1 B.out.size); clear b1)
    | (go_at_call 12; refine (AM.open_nil _ _).mono ?_; rintro e w1 ⟨rfl, b1⟩; have hw := (b1.block _ (lt_of_block hw)).trans hw; have B := Lib.hid (bnext B.out b1 B.out.size); clear b1)
    | (go_at_call 17; refine (AM.same_none _).mono ?_; rintro e w1 ⟨rfl, b1⟩; have hw := (b1.block _ (lt_of_block hw)).trans hw; have B := Lib.hid (bnext B.out b1 B.out.size); clear b1)
    | (go_at_call 5; refine (awake_any _).mono ?_; rintro e w1 ⟨rfl, b1⟩; have hw := (b1.block _ (lt_of_block hw)).trans hw; have B := Lib.hid (bnext B.out b1 B.out.size); clear b1))
  all_goals (go_ret; exact ⟨rfl, B.out⟩)
end Go.Proofs.YtkdjhegkcfmkoaaGreat
