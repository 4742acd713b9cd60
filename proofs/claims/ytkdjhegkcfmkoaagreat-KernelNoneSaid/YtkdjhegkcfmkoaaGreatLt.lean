/- What Light of the statements' layer 8 does: it answers something, of every model that came in. -/
import Derived.Test.YtkdjhegkcfmkoaaGreatNb
import Derived.ProofKit
import Derived.ChangeSame
import Derived.Deep.SlicePairs
import Derived.Laws.Cover2
namespace Go.Proofs.YtkdjhegkcfmkoaaGreat
open Go.RowKit Go.WideShapes Go.ChangeShapes Go.ChangeAt

/-- it answers yes or no -/
def SaidB (e : Ending) : Prop := ∃ b, e = .returned (.bool b)
/-- a slice of slices, as far as it can be read -/
def Rows2 (w : World) (a : Option Addr) (n st of : Nat) : Prop := ∀ i, i < n → ∃ g off, a = some ⟨g, off, none⟩ ∧ g < w.heap.size ∧ ∃ x k c, w.cell? ⟨g, off + i * st + of, none⟩ = some (.slice x k c)
/-- a model, as far as Light looks at it -/
structure ModelIn (w : World) (v : Value) (seed : Int) (en : Nat) (da : Option Addr) (dn dc : Nat) (pa : Option Addr) (pn pc : Nat) (la : Option Addr) (ln lc : Nat) (ia : Option Addr) (iN ic : Nat) : Prop where
  is : v = .agg #[.int .i64 seed, .float .f64 en, .slice da dn dc, .slice pa pn pc, .slice la ln lc, .slice ia iN ic]
  progs : Rows2 w pa pn 1 0
  lps : Rows2 w la ln 2 1

set_option maxRecDepth 100000 in
set_option maxHeartbeats 2000000 in
theorem light_any (w : World) (v : Value) (seed : Int) (en : Nat) (da : Option Addr) (dn dc : Nat) (pa : Option Addr) (pn pc : Nat) (la : Option Addr) (ln lc : Nat) (ia : Option Addr) (iN ic : Nat)
    (h : ModelIn w v seed en da dn dc pa pn pc la ln lc ia iN ic) :
    Calls Tryz.prog 4 #[v] w fun e w' => SaidB e ∧ Below w.heap.size w w' := by
  obtain ⟨rfl, hp, hl⟩ := h
  have HP := Lib.hid hp; clear hp
  have HL := Lib.hid hl; clear hl
  have hbb : Below w.heap.size w (w.alloc (.cells #[.int .i64 seed, .float .f64 en, .slice da dn dc, .slice pa pn pc, .slice la ln lc, .slice ia iN ic] 28)) := (Below.refl _ _).alloc (Nat.le_refl _) _
  go_enter Tryz.func4, Tryz.ntmps4
  go_wp2
  all_goals first | (go_ret; exact ⟨⟨_, rfl⟩, hbb⟩) | skip
  have hsz : w.heap.size ≤ (w.alloc (.cells #[.int .i64 seed, .float .f64 en, .slice da dn dc, .slice pa pn pc, .slice la ln lc, .slice ia iN ic] 28)).heap.size := hbb.size
  have c3 := cell_at (i := 3) (v := .slice pa pn pc) (heap_alloc_last w (.cells #[.int .i64 seed, .float .f64 en, .slice da dn dc, .slice pa pn pc, .slice la ln lc, .slice ia iN ic] 28)) rfl
  have c4 := cell_at (i := 4) (v := .slice la ln lc) (heap_alloc_last w (.cells #[.int .i64 seed, .float .f64 en, .slice da dn dc, .slice pa pn pc, .slice la ln lc, .slice ia iN ic] 28)) rfl
  generalize hwt : World.alloc w _ = wt at hbb hsz c3 c4 ⊢
  have keep : ∀ {a : Option Addr} {n st of : Nat}, Rows2 w a n st of → ∀ i, i < n → ∃ g off, a = some ⟨g, off, none⟩ ∧ ∃ x k c, wt.cell? ⟨g, off + i * st + of, none⟩ = some (.slice x k c) := by
    intro a n st of hr i hi
    obtain ⟨g, off, h1, h2, x, k, c, h3⟩ := hr i hi
    refine ⟨g, off, h1, x, k, c, ?_⟩
    unfold World.cell? at h3 ⊢
    rw [hbb.block g h2]; exact h3
  have HP2 := Lib.hid (keep HP.out)
  have HL2 := Lib.hid (keep HL.out)
  clear keep HP HL hwt
  have HB := Lib.hid hbb
  clear hbb
  go_loop [3] (fun i => ∃ k : Nat, k ≤ pn ∧ i = .int .i64 k) (fun i => pn - (intOf i).toNat)
  case atStart => exact ⟨0, by omega, rfl⟩
  case round =>
    obtain ⟨k, hk, rfl⟩ := hrel
    by_cases hlt : k < pn
    · obtain ⟨g, off, rfl, x, n, c, hc⟩ := HP2.out k hlt
      rw [Nat.mul_one, Nat.add_zero] at hc
      go_wp2
      · go_ret
        exact ⟨⟨_, rfl⟩, HB.out⟩
      · go_round
        case rel => exact ⟨k + 1, by omega, by go_num⟩
        case measure => simp [intOf]; omega
    · have hk2 : Hid (k = pn) := by show _ = _; omega
      go_wp2
      go_loop [4] (fun i => ∃ k : Nat, k ≤ ln ∧ i = .int .i64 k) (fun i => ln - (intOf i).toNat)
      case atStart => exact ⟨0, by omega, rfl⟩
      case round =>
        obtain ⟨j, hj, rfl⟩ := hrel
        by_cases hlt : j < ln
        · obtain ⟨g, off, rfl, x, n, c, hc⟩ := HL2.out j hlt
          go_wp2
          · go_ret
            exact ⟨⟨_, rfl⟩, HB.out⟩
          · go_round
            case rel => exact ⟨j + 1, by omega, by go_num⟩
            case measure => simp [intOf]; omega
        · go_wp2
          go_ret
          exact ⟨⟨_, rfl⟩, HB.out⟩
end Go.Proofs.YtkdjhegkcfmkoaaGreat
