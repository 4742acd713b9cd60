/- A map of pages behind a commit: what the calls of the statements FreemapAborts and FreemapKept leave. -/
import Derived.Test.YtmkckichkmgemaaFmPure
namespace Go.Proofs.Ytmkckichkmgemaa
open Go.RowKit
namespace Aborts
open Fl Fp

/-- behind the commit: the map alone, what has become of it since, and the two lists that were told -/
structure Mt (W w : World) (b a : Nat) (c : List Int) (z : List Nat) (u0 u1 : Value) : Prop where
  m : ∃ l, Fm.At w b a l ∧ Since c l
  below : Below W.heap.size W w
  hb : W.heap.size ≤ b
  ha : W.heap.size ≤ a
  r0 : w.ownsRow 0 3 1 u0 z.length (Fm.vals z)
  r1 : w.ownsRow 0 3 1 u1 (Fm.places c 1).length (Fm.vals (Fm.places c 1))
  n0 : u0.ownBlock ≠ some a
  n1 : u1.ownBlock ≠ some a

theorem Mt.next {W w w' : World} {b a : Nat} {c : List Int} {z : List Nat} {u0 u1 : Value} (h : Mt W w b a c z u0 u1) (k : Below w.heap.size w w') : Mt W w' b a c z u0 u1 := by
  obtain ⟨l, h1, h2⟩ := h.m
  exact ⟨⟨l, h1.below k, h2⟩, Fm.Below.next h.below k, h.hb, h.ha, Fr.own_keep h.r0 (S := fun _ => False) (Keep.of_below k) (fun _ _ e => e), Fr.own_keep h.r1 (S := fun _ => False) (Keep.of_below k) (fun _ _ e => e), h.n0, h.n1⟩
theorem Mt.turned {W w w' : World} {b a : Nat} {c l' : List Int} {z : List Nat} {u0 u1 : Value} (h : Mt W w b a c z u0 u1) (hm : Fm.At w' b a l') (hs : Since c l') (k : Keep (· = a) w w') : Mt W w' b a c z u0 u1 :=
  ⟨⟨l', hm, hs⟩, h.below.trans (k.below (by rintro i rfl; exact h.ha) h.below.size), h.hb, h.ha, Fr.own_keep h.r0 k (fun g hg e => h.n0 (by rw [hg, e])), Fr.own_keep h.r1 k (fun g hg e => h.n1 (by rw [hg, e])), h.n0, h.n1⟩
theorem mt_leave {W w : World} {b a : Nat} {c : List Int} {z : List Nat} {u0 u1 : Value} (h : Mt W w b a c z u0 u1) (i : Int) :
    Calls Try.prog 12 #[.pointer (some ⟨b, 0, none⟩), .int .i64 i] w fun e w' => ∃ n, e = .returned (.int .i64 n) ∧ Mt W w' b a c z u0 u1 := by
  obtain ⟨l, h1, h2⟩ := h.m
  exact (Fm.leave_any b a l i w h1).mono fun e w' ⟨he, hm, hk⟩ => ⟨_, he, h.turned hm (h2.leave i) hk⟩
theorem mt_take {W w : World} {b a : Nat} {c : List Int} {z : List Nat} {u0 u1 : Value} (h : Mt W w b a c z u0 u1) :
    Calls Try.prog 14 #[.pointer (some ⟨b, 0, none⟩)] w fun e w' => ∃ i n : Int, e = .returned (.tuple #[.int .i64 i, .int .i64 n]) ∧ (n = 0 → ∃ j : Nat, i = j ∧ j ∉ Fm.places c 1) ∧ Mt W w' b a c z u0 u1 := by
  obtain ⟨l, h1, h2⟩ := h.m
  refine (Fm.take_any b a l w h1).mono fun e w' ⟨he, hm, hk⟩ => ⟨_, _, he, ?_, h.turned hm h2.take hk⟩
  intro hn
  have ht : Fm.idx l 0 < l.length := by
    unfold Fm.takeE at hn
    split at hn
    · assumption
    · omega
  exact ⟨Fm.idx l 0, by rw [Fm.takeI, if_pos ht], h2.taken ht⟩
theorem mt_abort {W w : World} {b a : Nat} {c : List Int} {z : List Nat} {u0 u1 : Value} (h : Mt W w b a c z u0 u1) :
    Calls Try.prog 13 #[.pointer (some ⟨b, 0, none⟩)] w fun e w' => e = .returned (.bool true) ∧ Fm.At w' b a c ∧ Mt W w' b a c z u0 u1 := by
  obtain ⟨l, h1, h2⟩ := h.m
  refine (Fm.abort_any b a l w h1).mono fun e w' ⟨he, hm, hk⟩ => ?_
  rw [h2.back] at hm
  exact ⟨he, hm, h.turned hm h2.refl_of hk⟩
theorem mt_list {W w : World} {b a : Nat} {c : List Int} {z : List Nat} {u0 u1 : Value} (h : Mt W w b a c z u0 u1) (hm : Fm.At w b a c) (k : Int) :
    Calls Try.prog 10 #[.pointer (some ⟨b, 0, none⟩), .int .i64 k] w fun e w' =>
      ∃ o cp, e = .returned (.slice o (Fm.places c k).length cp) ∧ w'.ownsRow 0 3 1 (.slice o (Fm.places c k).length cp) (Fm.places c k).length (Fm.vals (Fm.places c k)) ∧ Fm.At w' b a c ∧ Mt W w' b a c z u0 u1 := by
  refine (Fm.list_any b a c k w hm).mono ?_
  rintro e w' ⟨u, rfl, hown, hbel⟩
  obtain ⟨o, cp, rfl⟩ := Fm.slice_of_owns hown
  exact ⟨o, cp, rfl, Fr.own_le hown (Nat.zero_le _), hm.below hbel, h.next hbel⟩
theorem mt_drew {W w : World} {b a : Nat} {c : List Int} {z : List Nat} {u0 u1 : Value} (h : Mt W w b a c z u0 u1) (n : Nat) : Mt W (w.drewN n) b a c z u0 u1 := h.next ⟨rfl, rfl, rfl, Nat.le_refl _, fun _ _ => rfl⟩

/-- behind made, awake and the commit, and two lists told -/
theorem start {W w w' w1 w2 : World} {b a x : Nat} {v : Value} {l : List Int} {u0 u1 : Value} (h : St W w b a x v l) (hk : Kinds l) (hm : Fm.At w' b a (Fm.turn 0 1 l)) (k : Keep (· = a) w w')
    (o0 : w1.ownsRow w'.heap.size 3 1 u0 (Fm.places (Fm.turn 0 1 l) 0).length (Fm.vals (Fm.places (Fm.turn 0 1 l) 0))) (b0 : Below w'.heap.size w' w1)
    (o1 : w2.ownsRow w1.heap.size 3 1 u1 (Fm.places (Fm.turn 0 1 l) 1).length (Fm.vals (Fm.places (Fm.turn 0 1 l) 1))) (b1 : Below w1.heap.size w1 w2) : Mt W w2 b a (Fm.turn 0 1 l) (Fm.places (Fm.turn 0 1 l) 0) u0 u1 := by
  have ha' := lt_of_block hm.list
  have s0 := b0.size
  refine ⟨⟨_, (hm.below b0).below b1, Since.start hk⟩, Fm.Below.next (Fm.Below.next (h.turned hm k) b0) b1, h.hb, h.ha, Fr.own_le (Fr.own_keep o0 (S := fun _ => False) (Keep.of_below b1) (fun _ _ e => e)) (Nat.zero_le _), Fr.own_le o1 (Nat.zero_le _), ?_, ?_⟩
  · intro e; have := (o0.lt a e).1; omega
  · intro e; have := (o1.lt a e).1; omega


end Aborts
end Go.Proofs.Ytmkckichkmgemaa
