/- The plain laws of a map of pages: numbers and lists alone. -/
import Derived.Test.YtmkckichkmgemaaSt
namespace Go.Proofs.Ytmkckichkmgemaa
namespace Fp
open Fm Fl

theorem getD_set (l : List Int) (i j : Nat) (v : Int) : (l.set i v).getD j 0 = if i = j ∧ j < l.length then v else l.getD j 0 := by
  simp only [List.getD_eq_getElem?_getD, List.getElem?_set]
  by_cases h : i = j
  · subst h
    by_cases h2 : i < l.length
    · simp [h2]
    · simp [h2]
  · simp [h]
theorem getD_map (l : List Int) (f : Int → Int) {j : Nat} (h : j < l.length) : (l.map f).getD j 0 = f (l.getD j 0) := by
  simp [List.getD_eq_getElem?_getD, h]

/-- all is one of the four kinds -/
def Kinds (l : List Int) : Prop := ∀ i, i < l.length → 0 ≤ l.getD i 0 ∧ l.getD i 0 ≤ 3
theorem Kinds.set {l : List Int} (h : Kinds l) (i : Nat) {v : Int} (h0 : 0 ≤ v) (h3 : v ≤ 3) : Kinds (l.set i v) := by
  intro j hj
  rw [List.length_set] at hj
  rw [getD_set]
  split
  · exact ⟨h0, h3⟩
  · exact h j hj
theorem Kinds.turn {l : List Int} (h : Kinds l) {p q : Int} (hp : 0 ≤ p ∧ p ≤ 3) (hq : 0 ≤ q ∧ q ≤ 3) : Kinds (turn p q l) := by
  intro j hj
  unfold Fm.turn at hj ⊢
  rw [List.length_map] at hj
  rw [getD_map _ _ hj, turn1]
  split
  · exact hp
  · split
    · exact hq
    · exact h j hj
theorem Kinds.step {l : List Int} (h : Kinds l) (k i : Int) : Kinds (Fl.step l k i) := by
  unfold Fl.step Fm.use Fm.leave Fm.take
  repeat' split
  all_goals first
    | exact h
    | exact h.set _ (by omega) (by omega)
    | exact h.turn (by omega) (by omega)
theorem Kinds.zeros (n : Nat) : Kinds (zeros n) := by
  intro i hi
  have : (Fm.zeros n).getD i 0 = 0 := by
    rw [zeros_length] at hi
    simp [Fm.zeros, List.getD_eq_getElem?_getD, hi]
  omega
theorem Kinds.steps (acts : List (Int × Int)) : ∀ {l : List Int}, Kinds l → Kinds (steps l acts) := by
  induction acts with
  | nil => intro l h; exact h
  | cons p r ih => intro l h; exact ih (Kinds.step h p.1 p.2)

/-- c is what was committed, and l what has become of it since -/
def Since (c l : List Int) : Prop := c.length = l.length ∧ ∀ i, i < l.length → (c.getD i 0 = 0 ∧ (l.getD i 0 = 0 ∨ l.getD i 0 = 2)) ∨ (c.getD i 0 = 1 ∧ (l.getD i 0 = 1 ∨ l.getD i 0 = 3))
theorem Since.start {l : List Int} (h : Kinds l) : Since (turn 0 1 l) (turn 0 1 l) := by
  refine ⟨rfl, fun i hi => ?_⟩
  unfold Fm.turn at hi ⊢
  rw [List.length_map] at hi
  have := h i hi
  rw [getD_map _ _ hi, turn1]
  split
  · exact Or.inl ⟨rfl, Or.inl rfl⟩
  · split
    · exact Or.inr ⟨rfl, Or.inl rfl⟩
    · have : l.getD i 0 = 0 ∨ l.getD i 0 = 1 := by omega
      rcases this with h | h <;> rw [h] <;> simp
theorem Since.take {c l : List Int} (h : Since c l) : Since c (take l) := by
  unfold Fm.take
  split
  · rename_i hi
    refine ⟨by rw [List.length_set]; exact h.1, fun i hj => ?_⟩
    rw [List.length_set] at hj
    rw [getD_set]
    split
    · rename_i he
      have hz := idx_get hi
      rw [he.1] at hz
      rcases h.2 i hj with h1 | h1
      · exact Or.inl ⟨h1.1, Or.inr rfl⟩
      · omega
    · exact h.2 i hj
  · exact h
theorem Since.leave {c l : List Int} (h : Since c l) (x : Int) : Since c (leave l x) := by
  unfold Fm.leave
  split
  · split
    · rename_i hh h2
      refine ⟨by rw [List.length_set]; exact h.1, fun i hj => ?_⟩
      rw [List.length_set] at hj
      rw [getD_set]
      split
      · rename_i he
        rw [he.1] at h2
        rcases h.2 i hj with h1 | h1
        · exact Or.inl ⟨h1.1, Or.inl rfl⟩
        · omega
      · exact h.2 i hj
    · split
      · rename_i hh h2 h3
        refine ⟨by rw [List.length_set]; exact h.1, fun i hj => ?_⟩
        rw [List.length_set] at hj
        rw [getD_set]
        split
        · rename_i he
          rw [he.1] at h3
          rcases h.2 i hj with h1 | h1
          · omega
          · exact Or.inr ⟨h1.1, Or.inr rfl⟩
        · exact h.2 i hj
      · exact h
  · exact h
theorem ext_getD {a b : List Int} (hl : a.length = b.length) (h : ∀ i, i < a.length → a.getD i 0 = b.getD i 0) : a = b := by
  apply List.ext_getElem hl
  intro i h1 h2
  have := h i h1
  simpa [List.getD_eq_getElem?_getD, h1, h2] using this
theorem Since.back {c l : List Int} (h : Since c l) : turn 1 0 l = c := by
  refine ext_getD (by unfold Fm.turn; rw [List.length_map]; exact h.1.symm) fun i hi => ?_
  unfold Fm.turn at hi ⊢
  rw [List.length_map] at hi
  rw [getD_map _ _ hi, turn1]
  rcases h.2 i hi with ⟨h0, h1 | h1⟩ | ⟨h0, h1 | h1⟩ <;> rw [h0, h1] <;> simp
theorem Since.refl_of {c l : List Int} (h : Since c l) : Since c c :=
  ⟨rfl, fun i hi => by rcases h.2 i (by rw [← h.1]; exact hi) with h1 | h1; exact Or.inl ⟨h1.1, Or.inl h1.1⟩; exact Or.inr ⟨h1.1, Or.inl h1.1⟩⟩

theorem mem_places {l : List Int} {v : Int} {i : Nat} : i ∈ places l v ↔ i < l.length ∧ l.getD i 0 = v := by
  simp [places, placesTo, List.mem_filter, List.mem_range]
/-- what is taken was not in use -/
theorem Since.taken {c l : List Int} (h : Since c l) (ht : idx l 0 < l.length) : idx l 0 ∉ places c 1 := by
  intro hm
  have hz := idx_get ht
  have := (mem_places.1 hm).2
  rcases h.2 _ ht with h1 | h1 <;> omega
theorem Since.none {c l : List Int} (h : Since c l) {k : Int} (hk : k = 2 ∨ k = 3) : places c k = [] := by
  rw [List.eq_nil_iff_forall_not_mem]
  intro i hi
  have := mem_places.1 hi
  rcases h.2 i (by rw [← h.1]; exact this.1) with h1 | h1 <;> omega

/-- what was seen of twelve pages: kinds below k, and the first j of kind k -/
def seenL (l : List Int) (k j : Nat) : List Int :=
  (List.range 12).map fun i => (if l.getD i 0 < k then 1 else 0) + (if i ∈ (places l k).take j then 1 else 0)
theorem seen_length (l : List Int) (k j : Nat) : (seenL l k j).length = 12 := by simp [seenL]
theorem seen_get (l : List Int) (k j : Nat) {i : Nat} (h : i < 12) : (seenL l k j).getD i 0 = (if l.getD i 0 < k then 1 else 0) + (if i ∈ (places l k).take j then 1 else 0) := by
  simp [seenL, List.getD_eq_getElem?_getD, h]
theorem seen_zero {l : List Int} (h : Kinds l) (hl : l.length = 12) : seenL l 0 0 = zeros 12 := by
  refine ext_getD (by rw [seen_length, zeros_length]) fun i hi => ?_
  rw [seen_length] at hi
  rw [seen_get _ _ _ hi]
  have := h i (by omega)
  have hz : (zeros 12).getD i 0 = 0 := by rw [zeros, List.getD_eq_getElem?_getD, List.getElem?_replicate, if_pos hi]; rfl
  rw [hz, if_neg (by omega)]
  simp
theorem seen_next {l : List Int} (hl : l.length = 12) (k : Nat) : seenL l k (places l k).length = seenL l (k + 1) 0 := by
  refine ext_getD (by rw [seen_length, seen_length]) fun i hi => ?_
  rw [seen_length] at hi
  rw [seen_get _ _ _ hi, seen_get _ _ _ hi, List.take_length, List.take_zero]
  by_cases h : l.getD i 0 < k
  · have : i ∉ places l k := fun hm => by have := (mem_places.1 hm).2; omega
    rw [if_pos h, if_neg this, if_pos (by omega)]; simp
  · by_cases h2 : l.getD i 0 = k
    · have : i ∈ places l k := mem_places.2 ⟨by omega, h2⟩
      rw [if_neg h, if_pos this, if_pos (by omega)]; simp
    · have : i ∉ places l k := fun hm => h2 (mem_places.1 hm).2
      rw [if_neg h, if_neg this, if_neg (by omega)]; simp
theorem places_nodup (l : List Int) (v : Int) : (places l v).Nodup := List.Nodup.sublist List.filter_sublist List.nodup_range
theorem seen_step {l : List Int} (hl : l.length = 12) (k : Nat) {j : Nat} (hj : j < (places l k).length) :
    (places l k).getD j 0 < 12 ∧ (seenL l k j).set ((places l k).getD j 0) ((seenL l k j).getD ((places l k).getD j 0) 0 + 1) = seenL l k (j + 1) := by
  have hm : (places l k).getD j 0 ∈ places l k := by
    rw [List.getD_eq_getElem?_getD, List.getElem?_eq_getElem hj]; exact List.getElem_mem hj
  have hlt : (places l k).getD j 0 < 12 := by have := (mem_places.1 hm).1; omega
  refine ⟨hlt, ext_getD (by rw [List.length_set, seen_length, seen_length]) fun i hi => ?_⟩
  rw [List.length_set, seen_length] at hi
  have htk : (places l k).take (j + 1) = (places l k).take j ++ [(places l k).getD j 0] := by
    rw [List.take_succ_eq_append_getElem hj, List.getD_eq_getElem?_getD, List.getElem?_eq_getElem hj]; rfl
  rw [getD_set, seen_length, seen_get l k (j + 1) hi, htk]
  by_cases he : (places l k).getD j 0 = i
  · rw [if_pos ⟨he, hi⟩, he, seen_get _ _ _ hi]
    have hn : i ∉ (places l k).take j := by
      have hnd := places_nodup l k
      rw [← List.take_append_drop (j + 1) (places l k), htk] at hnd
      have := (List.nodup_append.1 hnd).1
      have := (List.nodup_append.1 this).2.2
      intro hi2
      exact this i hi2 i (by rw [he]; exact List.mem_singleton.2 rfl) rfl
    rw [if_neg hn, if_pos (show i ∈ (places l k).take j ++ [i] by simp)]; omega
  · rw [if_neg (fun h => he h.1), seen_get _ _ _ hi]
    congr 1
    by_cases hi2 : i ∈ (places l k).take j
    · rw [if_pos hi2, if_pos (by simp [hi2])]
    · rw [if_neg hi2, if_neg (by simp only [List.mem_append, List.mem_singleton]; rintro (h | h); exact hi2 h; exact he h.symm)]
theorem seen_all {l : List Int} (h : Kinds l) (hl : l.length = 12) {i : Nat} (hi : i < 12) : (seenL l 4 0).getD i 0 = 1 := by
  have := h i (by omega)
  rw [seen_get _ _ _ hi, if_pos (by omega)]
  simp

end Fp
end Go.Proofs.Ytmkckichkmgemaa
