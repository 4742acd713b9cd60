/- The calls of layer 12 in the form in which the statements meet them: both maps and all old memory, behind each call. -/
import Derived.Test.YtmkckichkmgemaaFaw
namespace Go.Proofs.Ytmkckichkmgemaa
open Go.RowKit
namespace Fl

/-- in w lie both maps, and all that W held is as it was -/
structure St (W w : World) (b a x : Nat) (v : Value) (l : List Int) : Prop where
  both : Both w b a x v l
  below : Below W.heap.size W w
  hb : W.heap.size ≤ b
  ha : W.heap.size ≤ a
  hx : W.heap.size ≤ x

variable {W w : World} {b a x : Nat} {v : Value} {l : List Int}
theorem St.next (h : St W w b a x v l) {w' : World} (k : Below w.heap.size w w') : St W w' b a x v l := ⟨h.both.below k, Fm.Below.next h.below k, h.hb, h.ha, h.hx⟩

theorem st_mlist (h : St W w b a x v l) (k : Int) :
    Calls Try.prog 10 #[.pointer (some ⟨b, 0, none⟩), .int .i64 k] w fun e w' =>
      ∃ o c, e = .returned (.slice o (Fm.places l k).length c) ∧ w'.ownsRow w.heap.size 3 1 (.slice o (Fm.places l k).length c) (Fm.places l k).length (Fm.vals (Fm.places l k)) ∧ Below w.heap.size w w' ∧ St W w' b a x v l := by
  refine (Fm.list_any b a l k w h.both.m).mono ?_
  rintro e w' ⟨u, rfl, hown, hbel⟩
  obtain ⟨o, c, rfl⟩ := Fm.slice_of_owns hown
  exact ⟨o, c, rfl, hown, hbel, h.next hbel⟩
theorem st_rlist (h : St W w b a x v l) (k : Int) :
    Calls Try.prog 17 #[.pointer (some ⟨x, 0, none⟩), .int .i64 k] w fun e w' =>
      ∃ o c, e = .returned (.slice o (Fm.places l k).length c) ∧ w'.ownsRow w.heap.size 3 1 (.slice o (Fm.places l k).length c) (Fm.places l k).length (Fm.vals (Fm.places l k)) ∧ Below w.heap.size w w' ∧ St W w' b a x v l := by
  refine (Fr.list_any x v l k w h.both.r).mono ?_
  rintro e w' ⟨u, rfl, hown, hbel⟩
  obtain ⟨o, c, rfl⟩ := Fm.slice_of_owns hown
  exact ⟨o, c, rfl, hown, hbel, h.next hbel⟩
theorem st_awake (h : St W w b a x v l) : Calls Try.prog 9 #[] w fun e w' => e = .returned (.bool true) ∧ St W w' b a x v l :=
  (awake_any w).mono fun _ _ ⟨he, hb⟩ => ⟨he, h.next hb⟩
theorem st_count (h : St W w b a x v l) :
    Calls Try.prog 16 #[.pointer (some ⟨b, 0, none⟩)] w fun e w' =>
      e = .returned (.tuple #[.int .i64 (Fm.places l 0).length, .int .i64 (Fm.places l 1).length, .int .i64 (Fm.places l 2).length, .int .i64 (Fm.places l 3).length]) ∧ St W w' b a x v l :=
  (Fm.count_any b a l w h.both.m).mono fun _ _ ⟨he, hb⟩ => ⟨he, h.next hb⟩
theorem st_free (h : St W w b a x v l) :
    Calls Try.prog 18 #[.pointer (some ⟨b, 0, none⟩)] w fun e w' => e = .returned (.int .i64 (Fm.places l 0).length) ∧ St W w' b a x v l :=
  (Fm.free_any b a l w h.both.m).mono fun _ _ ⟨he, hb⟩ => ⟨he, h.next hb⟩
theorem st_fresh (h : St W w b a x v l) (i : Int) :
    Calls Try.prog 19 #[.pointer (some ⟨b, 0, none⟩), .int .i64 i] w fun e w' => e = .returned (.bool (Fm.fresh l i)) ∧ St W w' b a x v l :=
  (Fm.fresh_any b a l i w h.both.m).mono fun _ _ ⟨he, hw⟩ => ⟨he, hw ▸ h⟩

/-- a call of the map alone: the document's map is as it was, and no longer asked -/
theorem St.turned (h : St W w b a x v l) {w' : World} {l' : List Int} (hm : Fm.At w' b a l') (k : Keep (· = a) w w') : Below W.heap.size W w' :=
  h.below.trans (k.below (by rintro i rfl; exact h.ha) h.below.size)

def nints (l : List Nat) : List Int := l.map (fun (i : Nat) => (i : Int))
theorem vals_nints (l : List Nat) : Fm.vals l = Fr.ivals (nints l) := by simp [Fm.vals, Fr.ivals, nints]
theorem nints_length (l : List Nat) : (nints l).length = l.length := by simp [nints]

theorem ints_same (u u' : Value) (p : List Nat) (w : World) (hu : w.ownsRow 0 3 1 u p.length (Fm.vals p)) (hv : w.ownsRow 0 3 1 u' p.length (Fm.vals p)) (hp : p.length ≤ 1024) :
    Calls Try.prog 15 #[u, u'] w fun e w' => e = .returned (.bool true) ∧ ∃ n, w' = w.drewN n := by
  rw [vals_nints, ← nints_length] at hu hv
  refine (Fr.ints_any u u' (nints p) (nints p) w hu hv (by rw [nints_length]; omega) (by rw [nints_length]; omega)).mono fun e w' ⟨he, hw⟩ => ⟨?_, hw⟩
  rw [he, show Fr.intsB (nints p) (nints p) = true by simp [Fr.intsB]]

theorem places_le (l : List Int) (k : Int) : (Fm.places l k).length ≤ l.length := Fm.placesTo_le l k l.length

theorem step_length (l : List Int) (k i : Int) : (step l k i).length = l.length := by
  unfold step Fm.use Fm.leave Fm.turn Fm.take
  repeat' split
  all_goals simp
theorem steps_length (acts : List (Int × Int)) : ∀ l : List Int, (steps l acts).length = l.length := by
  induction acts with
  | nil => intro l; rfl
  | cons p r ih => intro l; exact (ih _).trans (step_length l p.1 p.2)

end Fl
end Go.Proofs.Ytmkckichkmgemaa
