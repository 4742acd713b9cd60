/- The abstract machine over this program: regions, whole. -/
import Derived.Test.YtkdjhegkcfmkoaaGreatMi
import Derived.KernelRfl
import Derived.Scope
namespace Go.Proofs.YtkdjhegkcfmkoaaGreat.AM
open Go.AM
set_option maxRecDepth 100000
theorem bitsOf_spec {acc : List Nat} {o : Oper} : ∀ {j : Nat}, (bitsOf acc o).testBit j = true ↔ ∃ e ∈ o.after, Region.binds .any e = true ∧ (e.on = j ∨ (acc.getD e.on 0).testBit j = true) := by
  intro j
  have key : ∀ (l : List Edge) (s : Nat), (l.foldl (fun s e => if Region.binds .any e then s ||| (2 ^ e.on) ||| acc.getD e.on 0 else s) s).testBit j = true ↔ s.testBit j = true ∨ ∃ e ∈ l, Region.binds .any e = true ∧ (e.on = j ∨ (acc.getD e.on 0).testBit j = true) := by
    intro l
    induction l with
    | nil => intro s; simp
    | cons e l ih =>
      intro s
      rw [List.foldl_cons, ih]
      by_cases hb : Region.binds .any e = true
      · rw [if_pos hb, Nat.testBit_or, Nat.testBit_or, Nat.testBit_two_pow, Bool.or_eq_true, Bool.or_eq_true, decide_eq_true_iff]
        constructor
        · rintro (((h | h) | h) | ⟨e', h1, h2⟩)
          · exact Or.inl h
          · exact Or.inr ⟨e, by simp, hb, Or.inl h⟩
          · exact Or.inr ⟨e, by simp, hb, Or.inr h⟩
          · exact Or.inr ⟨e', by simp [h1], h2⟩
        · rintro (h | ⟨e', h1, h2, h3⟩)
          · exact Or.inl (Or.inl (Or.inl h))
          · rcases List.mem_cons.1 h1 with rfl | h1
            · rcases h3 with h3 | h3
              · exact Or.inl (Or.inl (Or.inr h3))
              · exact Or.inl (Or.inr h3)
            · exact Or.inr ⟨e', h1, h2, h3⟩
      · rw [if_neg hb]
        constructor
        · rintro (h | ⟨e', h1, h2⟩)
          · exact Or.inl h
          · exact Or.inr ⟨e', by simp [h1], h2⟩
        · rintro (h | ⟨e', h1, h2, h3⟩)
          · exact Or.inl h
          · rcases List.mem_cons.1 h1 with rfl | h1
            · exact absurd h2 hb
            · exact Or.inr ⟨e', h1, h2, h3⟩
  unfold bitsOf
  rw [key]
  simp
theorem beforeL_snoc (l : List Oper) (o : Oper) : beforeL (l ++ [o]) = beforeL l ++ [bitsOf (beforeL l) o] := by
  unfold beforeL; rw [List.foldl_append]; rfl
theorem bf_len : ∀ (l : List Oper) (acc : List Nat), (l.foldl (fun acc o => acc ++ [bitsOf acc o]) acc).length = acc.length + l.length
  | [], acc => rfl
  | o :: l, acc => by rw [List.foldl_cons, bf_len l]; simp; omega
theorem bf_take : ∀ (l : List Oper) (acc : List Nat), (l.foldl (fun acc o => acc ++ [bitsOf acc o]) acc).take acc.length = acc
  | [], acc => List.take_length
  | o :: l, acc => by
    rw [List.foldl_cons]
    have h := bf_take l (acc ++ [bitsOf acc o])
    have h2 := congrArg (List.take acc.length) h
    rw [List.take_take, List.take_left' rfl] at h2
    rw [show min acc.length (acc ++ [bitsOf acc o]).length = acc.length by simp] at h2
    exact h2
theorem beforeL_len (l : List Oper) : (beforeL l).length = l.length := by
  have := bf_len l []
  simpa [beforeL] using this
theorem beforeL_take (l m : List Oper) : (beforeL (l ++ m)).take l.length = beforeL l := by
  have h : beforeL (l ++ m) = m.foldl (fun acc o => acc ++ [bitsOf acc o]) (beforeL l) := by unfold beforeL; rw [List.foldl_append]
  rw [h]
  have := bf_take m (beforeL l)
  rwa [beforeL_len] at this
theorem beforeL_get {l : List Oper} {i : Nat} {o : Oper} (hi : l[i]? = some o) : bfA (beforeL l) i = bitsOf (beforeL (l.take i)) o := by
  have hlt := (List.getElem?_eq_some_iff.1 hi).1
  have e : l = (l.take i ++ [o]) ++ l.drop (i + 1) := by
    have h1 : l[i] = o := (List.getElem?_eq_some_iff.1 hi).2
    rw [← h1, List.append_assoc, List.singleton_append, ← List.drop_eq_getElem_cons hlt, List.take_append_drop]
  have h2 := beforeL_take (l.take i ++ [o]) (l.drop (i + 1))
  rw [← e, beforeL_snoc] at h2
  have hlen : (l.take i ++ [o]).length = i + 1 := by simp; omega
  rw [hlen] at h2
  have h3 : (beforeL l)[i]? = some (bitsOf (beforeL (l.take i)) o) := by
    have : ((beforeL l).take (i + 1))[i]? = some (bitsOf (beforeL (l.take i)) o) := by
      rw [h2, List.getElem?_append_right (by rw [beforeL_len]; simp; omega), beforeL_len]
      simp [Nat.min_eq_left (Nat.le_of_lt hlt)]
    rwa [List.getElem?_take, if_pos (by omega)] at this
  unfold bfA
  rw [List.getD_eq_getElem?_getD, h3]; rfl
theorem before_pre {l : List Oper} {i j k : Nat} (hb : ((beforeL (l.take i)).getD j 0).testBit k = true) : ((beforeL l).getD j 0).testBit k = true := by
  have h1 := beforeL_take (l.take i) (l.drop i)
  rw [List.take_append_drop] at h1
  rw [← h1, List.getD_eq_getElem?_getD, List.getElem?_take] at hb
  split at hb
  · rw [List.getD_eq_getElem?_getD]; exact hb
  · simp at hb
variable {opsA : Array Oper}
theorem nthN_eq (l : List Nat) (i : Nat) : nthN l i = l.getD i 0 := by
  induction l generalizing i with
  | nil => cases i <;> rfl
  | cons a t ih => cases i with
    | zero => rfl
    | succ j => rw [List.getD_cons_succ]; exact ih j
theorem bindK_eq (e : Edge) : Region.binds .any e = bindK e.ground := by
  obtain ⟨n, g⟩ := e
  cases g <;> rfl
theorem bitsK_bit (acc : List Nat) (l : List Edge) (j : Nat) : (bitsK acc l).testBit j = true ↔ ∃ e ∈ l, Region.binds .any e = true ∧ (e.on = j ∨ (acc.getD e.on 0).testBit j = true) := by
  induction l with
  | nil => simp [bitsK]
  | cons e r ih =>
    have hb := bindK_eq e
    obtain ⟨n, g⟩ := e
    have hs : bitsK acc (⟨n, g⟩ :: r) = Bool.rec (bitsK acc r) (Nat.lor (Nat.lor (Nat.pow 2 n) (nthN acc n)) (bitsK acc r)) (bindK g) := rfl
    rw [hs]
    cases hg : bindK g with
    | false =>
      rw [hg] at hb
      show (bitsK acc r).testBit j = true ↔ _
      rw [ih]
      constructor
      · rintro ⟨e, h1, h2⟩; exact ⟨e, List.mem_cons_of_mem _ h1, h2⟩
      · rintro ⟨e, h1, h2, h3⟩
        rcases List.mem_cons.1 h1 with h1 | h1
        · subst h1; rw [hb] at h2; cases h2
        · exact ⟨e, h1, h2, h3⟩
    | true =>
      rw [hg] at hb
      show ((2 ^ n ||| nthN acc n) ||| bitsK acc r).testBit j = true ↔ _
      rw [Nat.testBit_or, Nat.testBit_or, Nat.testBit_two_pow, Bool.or_eq_true, Bool.or_eq_true, decide_eq_true_iff, ih, nthN_eq]
      constructor
      · rintro (h | ⟨e, h1, h2⟩)
        · exact ⟨⟨n, g⟩, by simp, hb, h⟩
        · exact ⟨e, List.mem_cons_of_mem _ h1, h2⟩
      · rintro ⟨e, h1, h2, h3⟩
        rcases List.mem_cons.1 h1 with h1 | h1
        · subst h1; exact Or.inl h3
        · exact Or.inr ⟨e, h1, h2, h3⟩
theorem bitsK_eq (acc : List Nat) (o : Oper) : bitsK acc o.after.toList = bitsOf acc o := by
  apply Nat.eq_of_testBit_eq
  intro j
  rw [Bool.eq_iff_iff, bitsK_bit, bitsOf_spec]
  simp only [Array.mem_toList_iff]
theorem forceM_eq (n : Nat) (k : Nat → List Nat) : forceM n k = k n := by cases n <;> rfl
theorem snocN_eq (l : List Nat) (x : Nat) : snocN l x = l ++ [x] := by
  induction l with
  | nil => rfl
  | cons a t ih => show a :: snocN t x = _; rw [ih]; rfl
theorem bfK_eq (l : List Oper) (acc : List Nat) : bfK l acc = l.foldl (fun acc o => acc ++ [bitsOf acc o]) acc := by
  induction l generalizing acc with
  | nil => rfl
  | cons o r ih =>
    show forceM (bitsK acc o.after.toList) (fun b => bfK r (snocN acc b)) = _
    rw [forceM_eq, ih, snocN_eq, bitsK_eq]
    rfl
theorem bfOk_draw : BfOk opsA (bfOf opsA.toList true) ∧ BfAll opsA (bfOf opsA.toList true) := by
  have e : bfOf opsA.toList true = beforeL opsA.toList := bfK_eq _ _
  rw [e]
  refine ⟨fun i o j ho hb => ?_, fun i o ho ed he hbind => ?_⟩
  · rw [beforeL_get (by rw [Array.getElem?_toList]; exact ho), bitsOf_spec] at hb
    obtain ⟨ed, h1, h2, h3⟩ := hb
    refine ⟨ed, h1, h2, ?_⟩
    rcases h3 with h3 | h3
    · exact Or.inl h3
    · exact Or.inr (before_pre h3)
  · rw [beforeL_get (by rw [Array.getElem?_toList]; exact ho), bitsOf_spec]
    exact ⟨ed, he, hbind, Or.inl rfl⟩
/-! ### the frame at a region's end -/
theorem outs_spec {M : Nat} {ops : List Oper} {E : List AV} (hM : ∀ t, M.testBit t = true → t < 512) : ∀ (l : List Nat) (n : Nat) (F : Fr) (k : Fr → Bool), (∀ i ∈ l, ∃ o, ops[i]? = some o) → outF E (outsOf M ops l n) F k = true → ∃ F', k F' = true ∧ ∀ t, M.testBit t = true →
    (∃ (q i : Nat) (o : Oper) (v : AV), l[q]? = some i ∧ ops[i]? = some o ∧ o.dst = some t ∧ E[n + q]? = some v ∧ F'.at (pathOf t) = v) ∨ ((∀ (q i : Nat) o, l[q]? = some i → ops[i]? = some o → o.dst ≠ some t) ∧ F'.at (pathOf t) = F.at (pathOf t)) := by
  intro l
  induction l with
  | nil => intro n F k _ hh; exact ⟨F, hh, fun t _ => Or.inr ⟨fun q i o hq => by simp at hq, rfl⟩⟩
  | cons i r ih =>
    intro n F k hops hh
    have hops' : ∀ i ∈ r, ∃ o, ops[i]? = some o := fun x hx => hops x (by simp [hx])
    unfold outsOf at hh
    cases ho : ops[i]? with
    | none =>
      obtain ⟨o, ho'⟩ := hops i (by simp)
      rw [ho] at ho'; cases ho'
    | some o =>
      simp only [ho] at hh
      have skip : (∀ t, M.testBit t = true → o.dst ≠ some t) → outF E (outsOf M ops r (n + 1)) F k = true → ∃ F', k F' = true ∧ ∀ t, M.testBit t = true →
          (∃ (q i' : Nat) (o : Oper) (v : AV), (i :: r)[q]? = some i' ∧ ops[i']? = some o ∧ o.dst = some t ∧ E[n + q]? = some v ∧ F'.at (pathOf t) = v) ∨ ((∀ (q i' : Nat) o, (i :: r)[q]? = some i' → ops[i']? = some o → o.dst ≠ some t) ∧ F'.at (pathOf t) = F.at (pathOf t)) := by
        intro hne hh
        obtain ⟨F', h1, h2⟩ := ih (n + 1) F k hops' hh
        refine ⟨F', h1, fun t ht => ?_⟩
        rcases h2 t ht with ⟨q, i', o', v, a1, a2, a3, a4, a5⟩ | ⟨b1, b2⟩
        · exact Or.inl ⟨q + 1, i', o', v, by simpa using a1, a2, a3, by rw [show n + (q + 1) = n + 1 + q by omega]; exact a4, a5⟩
        · refine Or.inr ⟨fun q i' o' hq ho' => ?_, b2⟩
          cases q with
          | zero => simp at hq; subst hq; rw [ho] at ho'; injection ho' with ho'; subst ho'; exact hne t ht
          | succ q => exact b1 q i' o' (by simpa using hq) ho'
      cases hd : o.dst with
      | none => simp only [hd] at hh; exact skip (fun t _ => by rw [hd]; intro e; cases e) hh
      | some t0 =>
        simp only [hd] at hh
        cases hm : M.testBit t0 with
        | false =>
          rw [hm] at hh
          exact skip (fun t ht e => by rw [hd] at e; injection e with e; subst e; rw [hm] at ht; cases ht) hh
        | true =>
          rw [hm] at hh
          obtain ⟨v, hv, g⟩ := lnthK_spec (show lnthK E n (fun v => Fr.put F (pathOf t0) v fun F => outF E (outsOf M ops r (n + 1)) F k) = true from hh)
          rw [Fr.put_eq] at g
          obtain ⟨F', h1, h2⟩ := ih (n + 1) _ k hops' g
          refine ⟨F', h1, fun t ht => ?_⟩
          rcases h2 t ht with ⟨q, i', o', v', a1, a2, a3, a4, a5⟩ | ⟨b1, b2⟩
          · exact Or.inl ⟨q + 1, i', o', v', by simpa using a1, a2, a3, by rw [show n + (q + 1) = n + 1 + q by omega]; exact a4, a5⟩
          · rw [Fr.at_set] at b2
            by_cases e : t = t0
            · subst e
              rw [if_pos rfl] at b2
              exact Or.inl ⟨0, i, o, v, rfl, ho, hd, hv, b2⟩
            · rw [if_neg (fun h => e (pathOf_inj (hM _ ht) (hM _ hm) h.symm))] at b2
              refine Or.inr ⟨fun q i' o' hq ho' => ?_, b2⟩
              cases q with
              | zero => simp at hq; subst hq; rw [ho] at ho'; injection ho' with ho'; subst ho'; rw [hd]; intro h; injection h with h; exact e h.symm
              | succ q => exact b1 q i' o' (by simpa using hq) ho'
end Go.Proofs.YtkdjhegkcfmkoaaGreat.AM
namespace Go.Proofs.YtkdjhegkcfmkoaaGreat.AM
open Go.AM
set_option maxRecDepth 100000
theorem psK_eq (l : List (Nat × Operand)) : psK l = l.map (·.2) := by
  induction l with
  | nil => rfl
  | cons p t ih => obtain ⟨a, x⟩ := p; show x :: psK t = _; rw [ih]; rfl
theorem appK_eq (l m : List Operand) : appK l m = l ++ m := by
  induction l with
  | nil => rfl
  | cons a t ih => show a :: appK t m = _; rw [ih]; rfl
theorem callK_eq (c : Call) : callK c = c.operands.toList := by
  obtain ⟨f, a, t⟩ := c
  cases f <;> simp [callK, Call.operands]
theorem opdsK_eq (o : Op) : opdsK o = o.operands.toList := by
  cases o with
  | call c => exact callK_eq c
  | go c => exact callK_eq c
  | defer c => exact callK_eq c
  | build t ps => show psK ps.toList = _; rw [psK_eq]; simp [Op.operands]
  | buildSlice t n ps => show psK ps.toList = _; rw [psK_eq]; simp [Op.operands]
  | makeFunc f a b => show appK a.toList b.toList = _; rw [appK_eq]; simp [Op.operands]
  | makeMap t r => cases r <;> simp [opdsK, optK, Op.operands]
  | slice t x l h m => cases l <;> cases h <;> cases m <;> simp [opdsK, optK, Op.operands]
  | _ => rfl
theorem maskL_bit (l : List Operand) (t : Nat) : (maskL l).testBit t = true ↔ .tmp t ∈ l := by
  induction l with
  | nil => simp [maskL]
  | cons x r ih =>
    have other : maskL (x :: r) = maskL r → (∀ u, x ≠ .tmp u) → ((maskL (x :: r)).testBit t = true ↔ Operand.tmp t ∈ x :: r) := fun e hx => by
      rw [e, ih, List.mem_cons]
      exact ⟨Or.inr, fun h => h.resolve_left (fun e => hx t e.symm)⟩
    cases x with
    | tmp u =>
      show (maskL r ||| 2 ^ u).testBit t = true ↔ _
      rw [Nat.testBit_or, Nat.testBit_two_pow, Bool.or_eq_true, ih, decide_eq_true_iff, List.mem_cons, Operand.tmp.injEq]
      constructor
      · rintro (h | h)
        · exact Or.inr h
        · exact Or.inl h.symm
      · rintro (h | h)
        · exact Or.inr h.symm
        · exact Or.inl h
    | const v => exact other rfl (by intro u e; cases e)
    | global g => exact other rfl (by intro u e; cases e)
    | func f => exact other rfl (by intro u e; cases e)
theorem bitAt_eq (n t : Nat) : bitAt n t = n.testBit t := by
  unfold bitAt Nat.testBit
  show Nat.beq ((n >>> t) &&& 1) 1 = _
  rw [Nat.and_comm 1, Nat.and_one_is_mod, Bool.eq_iff_iff]
  rw [bne_iff_ne]
  constructor
  · intro h
    have := (beq_iff _ _).1 h
    omega
  · intro h
    exact (beq_iff _ _).2 (by omega)
/-- temporaries that are written, as bits -/
def wrM (l : List Oper) (w : Nat) : Prop := ∀ t, w.testBit t = true ↔ ∃ o ∈ l, o.dst = some t
theorem looks_mem (ops : List Oper) (o : Oper) (t : Nat) : t ∈ looksL ops o ↔ .tmp t ∈ o.op.operands.toList ∨ ∃ g b p, o.guard = some (g, b) ∧ ops[g]? = some p ∧ p.dst = some t := by
  unfold looksL
  rw [List.mem_append]
  refine or_congr ?_ ?_
  · rw [List.mem_filterMap]
    constructor
    · rintro ⟨x, hx, h⟩
      cases x <;> simp at h
      subst h; exact hx
    · intro h; exact ⟨_, h, rfl⟩
  · cases hg : o.guard with
    | none => simp
    | some q =>
      obtain ⟨g, b⟩ := q
      simp only
      cases hp : ops[g]? with
      | none =>
        simp only [List.not_mem_nil, false_iff]
        rintro ⟨g', b', p, h1, h2, _⟩
        injection h1 with h1; injection h1 with h1 _
        subst h1; rw [hp] at h2; cases h2
      | some p =>
        simp only [Option.mem_toList]
        constructor
        · intro h; exact ⟨g, b, p, rfl, hp, h⟩
        · rintro ⟨g', b', p', h1, h2, h3⟩
          injection h1 with h1; injection h1 with h1 _
          subst h1; rw [hp] at h2; injection h2 with h2; subst h2; exact h3
abbrev bfS (n : Nat) : List Nat := (List.range n).map fun i => 2 ^ i - 1
theorem bfS_get {n i : Nat} (h : i < n) : (bfS n).getD i 0 = 2 ^ i - 1 := by
  rw [List.getD_eq_getElem?_getD]
  simp [h]
theorem sub_or {a b : Nat} (h : ∀ j, a.testBit j = true → b.testBit j = true) : (a ||| b) = b := by
  apply Nat.eq_of_testBit_eq
  intro j
  rw [Nat.testBit_or]
  cases ha : a.testBit j with
  | false => rfl
  | true => rw [h j ha]; rfl
theorem seq_valid (ops : List Oper) : ∀ (r pre : List Oper) (w ld : Nat), ops = pre ++ r → wrM pre w → (∀ j, ld.testBit j = true → j < pre.length) → seqK r pre.length w = true →
    valid ops (bfS ops.length) (List.range' pre.length r.length) (List.range pre.length).reverse (2 ^ pre.length - 1) ld = true
  | [], pre, w, ld, e, _, _, _ => by
    subst e
    simp [valid]
  | o :: r, pre, w, ld, e, hw, hl, h => by
    obtain ⟨h1, h2⟩ := boolRec_t (show (Bool.rec false (Option.rec (seqK r pre.length.succ w) (fun t => Bool.rec (forceN (Nat.lor w (Nat.pow 2 t)) fun w => seqK r pre.length.succ w) false (bitAt (Nat.lor (maskL (opdsK o.op)) w) t)) o.dst) (Option.rec true (fun g => Prod.rec (fun j _ => Nat.ble j.succ pre.length) g) o.guard) : Bool) = true from h)
    have hlt : pre.length < ops.length := by rw [e]; simp
    have ho : ops[pre.length]? = some o := by rw [e]; simp
    have hbf := bfS_get hlt
    have hpast : ∀ j, j ∈ (List.range pre.length).reverse ↔ j < pre.length := fun j => by simp
    have hpre : ∀ {j : Nat}, j < pre.length → ops[j]? = pre[j]? := fun hj => by rw [e, List.getElem?_append_left hj]
    have hg : ∀ j b, o.guard = some (j, b) → j < pre.length := fun j b hg => by
      rw [hg] at h1
      exact (ble_iff _ _).1 h1
    have key : ∃ w', wrM (pre ++ [o]) w' ∧ seqK r (pre ++ [o]).length w' = true ∧ ∀ t, o.dst = some t → t ∉ looksL ops o ∧ ∀ j, j < pre.length → ∀ p, ops[j]? = some p → p.dst ≠ some t := by
      rw [show (pre ++ [o]).length = pre.length.succ by simp]
      cases hd : o.dst with
      | none =>
        rw [hd] at h2
        refine ⟨w, fun t => ?_, h2, by intro t ht; cases ht⟩
        rw [hw]
        constructor
        · rintro ⟨p, hp, hq⟩; exact ⟨p, List.mem_append_left _ hp, hq⟩
        · rintro ⟨p, hp, hq⟩
          rcases List.mem_append.1 hp with hp | hp
          · exact ⟨p, hp, hq⟩
          · rw [List.mem_singleton] at hp; subst hp; rw [hd] at hq; cases hq
      | some t =>
        rw [hd] at h2
        obtain ⟨h3, h4⟩ := boolRec_f (show (Bool.rec (forceN (Nat.lor w (Nat.pow 2 t)) fun w => seqK r pre.length.succ w) false (bitAt (Nat.lor (maskL (opdsK o.op)) w) t) : Bool) = true from h2)
        rw [forceN_eq] at h4
        rw [bitAt_eq] at h3
        have h3 : ((maskL (opdsK o.op)) ||| w).testBit t = false := h3
        rw [Nat.testBit_or, Bool.or_eq_false_iff] at h3
        have hown : ∀ p ∈ pre, p.dst ≠ some t := fun p hp hpt => by
          have := (hw t).2 ⟨p, hp, hpt⟩
          rw [h3.2] at this; cases this
        refine ⟨w ||| 2 ^ t, fun u => ?_, h4, fun u hu => ?_⟩
        · rw [Nat.testBit_or, Nat.testBit_two_pow, Bool.or_eq_true, decide_eq_true_iff, hw]
          constructor
          · rintro (⟨p, hp, hq⟩ | hq)
            · exact ⟨p, List.mem_append_left _ hp, hq⟩
            · subst hq; exact ⟨o, by simp, hd⟩
          · rintro ⟨p, hp, hq⟩
            rcases List.mem_append.1 hp with hp | hp
            · exact Or.inl ⟨p, hp, hq⟩
            · rw [List.mem_singleton] at hp; subst hp; rw [hd] at hq; injection hq with hq; exact Or.inr hq
        · injection hu with hu
          subst hu
          refine ⟨fun hm => ?_, fun j hj p hp => ?_⟩
          · rcases (looks_mem ops o t).1 hm with hm | ⟨g, b, p, q1, q2, q3⟩
            · rw [← opdsK_eq, ← maskL_bit, h3.1] at hm; cases hm
            · have := hg g b q1
              rw [hpre this] at q2
              exact hown p (List.mem_of_getElem? q2) q3
          · rw [hpre hj] at hp
            exact hown p (List.mem_of_getElem? hp)
    obtain ⟨w', k1, k2, k3⟩ := key
    have hnext := seq_valid ops r (pre ++ [o]) w' (if isLoud o.op then ld ||| 2 ^ pre.length else ld) (by rw [e]; simp) k1 (fun j hj => by
      rw [List.length_append]
      show j < pre.length + 1
      split at hj
      · rw [Nat.testBit_or, Nat.testBit_two_pow, Bool.or_eq_true, decide_eq_true_iff] at hj
        rcases hj with hj | hj
        · have := hl j hj; omega
        · omega
      · have := hl j hj; omega) k2
    rw [show (pre ++ [o]).length = pre.length + 1 by simp, List.range_succ, List.reverse_append, List.reverse_singleton] at hnext
    rw [show (o :: r).length = r.length + 1 from rfl, List.range'_succ]
    unfold valid
    rw [ho]
    simp only [Bool.and_eq_true]
    have hdone : (2 ^ (pre.length + 1) - 1) = (2 ^ pre.length - 1 ||| 2 ^ pre.length) := by
      apply Nat.eq_of_testBit_eq
      intro j
      rw [Nat.testBit_or, Nat.testBit_two_pow_sub_one, Nat.testBit_two_pow_sub_one, Nat.testBit_two_pow, Bool.eq_iff_iff]
      simp only [Bool.or_eq_true, decide_eq_true_iff]
      omega
    refine ⟨?_, by rw [← hdone]; exact hnext⟩
    unfold okOp
    rw [hbf]
    simp only [Bool.and_eq_true]
    refine ⟨⟨⟨⟨⟨?_, ?_⟩, ?_⟩, ?_⟩, ?_⟩, ?_⟩
    · rw [Nat.testBit_two_pow_sub_one]; simp
    · rw [Nat.or_self]; simp
    · rw [sub_or (fun j hj => by rw [Nat.testBit_two_pow_sub_one, decide_eq_true_iff]; exact hl j hj)]; simp
    · refine List.all_eq_true.2 (fun t _ => ?_)
      cases hs : seenAt ops t (List.range pre.length).reverse with
      | none => rfl
      | some q =>
        obtain ⟨j, p, q1, _, _⟩ := seenAt_some hs
        simp only [q1]
        rw [Nat.testBit_two_pow_sub_one, decide_eq_true_iff]
        exact (hpast j).1 (List.mem_of_getElem? q1)
    · cases hd : o.dst with
      | none => rfl
      | some t =>
        obtain ⟨a1, a2⟩ := k3 t hd
        simp only [Bool.and_eq_true]
        refine ⟨by simpa using a1, List.all_eq_true.2 (fun j hj => ?_)⟩
        have hj := (hpast j).1 hj
        have hj2 : j < ops.length := by omega
        rw [List.getElem?_eq_getElem hj2]
        simp only [Bool.and_eq_true, bne_iff_ne, Bool.or_eq_true]
        refine ⟨a2 j hj _ (List.getElem?_eq_getElem hj2), Or.inr ?_⟩
        rw [Nat.testBit_two_pow_sub_one, decide_eq_true_iff]; exact hj
    · cases hgd : o.guard with
      | none => rfl
      | some q =>
        obtain ⟨j, b⟩ := q
        simp only
        rw [Nat.testBit_two_pow_sub_one, decide_eq_true_iff]
        exact hg j b hgd
theorem validK_ok {l : List Oper} {d : Bool} (h : validK l d = true) : valid l (bfOf l d) (odOf l d) [] 0 0 = true := by
  cases d with
  | true => exact h
  | false =>
    have := seq_valid l l [] 0 0 rfl (fun t => by simp) (fun j hj => by simp at hj) h
    rw [show bfOf l false = bfS l.length from rfl, show odOf l false = List.range l.length from rfl, List.range_eq_range']
    exact this
end Go.Proofs.YtkdjhegkcfmkoaaGreat.AM
namespace Go.Proofs.YtkdjhegkcfmkoaaGreat.AM
open Go.AM
set_option maxRecDepth 100000
theorem lmapO_eq (f : Operand → Operand) (l : List Operand) : lmapO f l = l.map f := by
  induction l with
  | nil => rfl
  | cons a t ih => show f a :: lmapO f t = _; rw [ih]; rfl
theorem psMapK_eq (f : Operand → Operand) (l : List (Nat × Operand)) : psMapK f l = l.map fun p => (p.1, f p.2) := by
  induction l with
  | nil => rfl
  | cons p t ih => obtain ⟨i, x⟩ := p; show (i, f x) :: psMapK f t = _; rw [ih]; rfl
theorem arrO (f : Operand → Operand) (a : Array Operand) : (⟨lmapO f a.toList⟩ : Array Operand) = a.map f := by
  apply Array.ext'
  rw [lmapO_eq, Array.toList_map]
theorem arrP (f : Operand → Operand) (a : Array (Nat × Operand)) : (⟨psMapK f a.toList⟩ : Array (Nat × Operand)) = a.map fun p => (p.1, f p.2) := by
  apply Array.ext'
  rw [psMapK_eq, Array.toList_map]
theorem omapK_eq (f : Operand → Operand) (x : Option Operand) : omapK f x = x.map f := by cases x <;> rfl
theorem mapCallK_eq (f : Operand → Operand) (c : Call) : mapCallK f c = mapCall f c := by
  obtain ⟨g, a, t⟩ := c
  unfold mapCallK mapCall
  simp only [arrO]
  cases g <;> rfl
theorem mapOK_eq (f : Operand → Operand) (o : Op) : mapOK f o = mapO f o := by
  cases o with
  | build t ps => show Op.build t ⟨psMapK f ps.toList⟩ = _; rw [arrP]; rfl
  | buildSlice t n ps => show Op.buildSlice t n ⟨psMapK f ps.toList⟩ = _; rw [arrP]; rfl
  | makeFunc g a b => show Op.makeFunc g ⟨lmapO f a.toList⟩ ⟨lmapO f b.toList⟩ = _; rw [arrO, arrO]; rfl
  | slice t x a b c => show Op.slice t (f x) (omapK f a) (omapK f b) (omapK f c) = _; rw [omapK_eq, omapK_eq, omapK_eq]; rfl
  | call c => show Op.call (mapCallK f c) = _; rw [mapCallK_eq]; rfl
  | defer c => show Op.defer (mapCallK f c) = _; rw [mapCallK_eq]; rfl
  | _ => rfl
/-- what was written, the last one first -/
abbrev pdOf (ops : List Oper) (past : List Nat) : List (Option Nat) := past.map fun i => (ops[i]?).bind (·.dst)
theorem seenK_add (l : List (Option Nat)) (t n : Nat) : seenK l t n = (seenK l t 0).map (· + n) := by
  induction l generalizing n with
  | nil => rfl
  | cons d r ih =>
    cases d with
    | none =>
      show seenK r t (n + 1) = (seenK r t 1).map (· + n)
      rw [ih, ih 1, Option.map_map]
      congr 1; funext x; simp only [Function.comp_apply]; omega
    | some u =>
      show (Bool.rec (seenK r t (n + 1)) (some n) (u.beq t) : Option Nat) = (Bool.rec (seenK r t 1) (some 0) (u.beq t) : Option Nat).map (· + n)
      cases u.beq t with
      | true => simp
      | false =>
        show seenK r t (n + 1) = (seenK r t 1).map (· + n)
        rw [ih, ih 1, Option.map_map]
        congr 1; funext x; simp only [Function.comp_apply]; omega
theorem seenK_eq (ops : List Oper) (t : Nat) : ∀ (past : List Nat), (∀ i ∈ past, i < ops.length) → seenK (pdOf ops past) t 0 = seenAt ops t past
  | [], _ => rfl
  | i :: r, h => by
    have hr := seenK_eq ops t r (fun j hj => h j (by simp [hj]))
    have hi := List.getElem?_eq_getElem (h i (by simp))
    have e : pdOf ops (i :: r) = (ops[i]'(h i (by simp))).dst :: pdOf ops r := by
      show ((ops[i]?).bind (·.dst)) :: pdOf ops r = _
      rw [hi]; rfl
    rw [e]
    rcases seenAt_cons ops t i r with ⟨o, h1, h2, h3⟩ | ⟨h1, h2⟩
    · rw [hi] at h1; injection h1 with h1
      rw [h3, h1, h2]
      show (Bool.rec (seenK (pdOf ops r) t 1) (some 0) (t.beq t) : Option Nat) = some 0
      rw [(beq_iff t t).2 rfl]
    · rw [h2, ← hr, ← seenK_add]
      have := h1 _ hi
      cases hd : (ops[i]'(h i (by simp))).dst with
      | none => rfl
      | some u =>
        show (Bool.rec (seenK (pdOf ops r) t 1) (some 0) (u.beq t) : Option Nat) = _
        have hne : u.beq t = false := by
          cases hb : u.beq t with
          | false => rfl
          | true => rw [(beq_iff _ _).1 hb] at hd; exact absurd hd this
        rw [hne]
theorem encK_eq (M : Nat) (ops : List Oper) (past : List Nat) (h : ∀ i ∈ past, i < ops.length) (x : Operand) : encK M (pdOf ops past) x = enc M ops past 0 x := by
  cases x with
  | tmp t =>
    show (Option.rec (Bool.rec (.global 0) (.tmp (Nat.mul 2 t)) (bitAt M t)) (fun q => .tmp (Nat.succ (Nat.mul 2 q))) (seenK (pdOf ops past) t 0) : Operand) = match seenAt ops t past with | some q => .tmp (2 * (q + 0) + 1) | none => if M.testBit t then .tmp (2 * t) else .global 0
    rw [seenK_eq ops t past h, bitAt_eq]
    cases seenAt ops t past with
    | none => cases M.testBit t <;> rfl
    | some q => rfl
  | _ => rfl
theorem nthO_eq (l : List Oper) (i : Nat) : nthO l i = l[i]? := by
  induction l generalizing i with
  | nil => rfl
  | cons a t ih => cases i with
    | zero => rfl
    | succ j => exact ih j
theorem guardK_eq (M : Nat) (ops : List Oper) (past : List Nat) (h : ∀ i ∈ past, i < ops.length) (o : Oper) : guardK M ops (pdOf ops past) o = guardOf M ops past 0 o := by
  unfold guardK guardOf
  cases o.guard with
  | none => rfl
  | some q =>
    obtain ⟨j, b⟩ := q
    show (Option.rec (some (.global 0, b)) (fun p => Option.rec (some (.global 0, b)) (fun t => some (encK M (pdOf ops past) (.tmp t), b)) (dstOf p)) (nthO ops j) : Option (Operand × Bool)) = _
    rw [nthO_eq]
    simp only
    cases ops[j]? with
    | none => rfl
    | some p =>
      show (Option.rec (some (.global 0, b)) (fun t => some (encK M (pdOf ops past) (.tmp t), b)) p.dst : Option (Operand × Bool)) = match p.dst with | some t => some (enc M ops past 0 (.tmp t), b) | none => some (.global 0, b)
      cases p.dst with
      | none => rfl
      | some t => show some (encK M (pdOf ops past) (.tmp t), b) = _; rw [encK_eq M ops past h]
/-- what runs one behind the other needs no second look -/
theorem ckOf_seq (M : Nat) (ops : List Oper) (j : Nat) (hj : j < ops.length) : ∀ (past : List Nat) (n : Nat), (∀ i ∈ past, i < ops.length) → ckOf M ops (bfS ops.length) j past n = []
  | [], _, _ => rfl
  | i :: r, n, h => by
    have hi := h i (by simp)
    unfold ckOf
    rw [List.getElem?_eq_getElem hi]
    simp only
    have hc : (i == j || ((bfS ops.length).getD j 0).testBit i || ((bfS ops.length).getD i 0).testBit j) = true := by
      rw [bfS_get hj, bfS_get hi, Nat.testBit_two_pow_sub_one, Nat.testBit_two_pow_sub_one]
      simp only [Bool.or_eq_true, beq_iff_eq, decide_eq_true_iff]
      omega
    rw [if_pos hc]
    exact ckOf_seq M ops j hj r (n + 1) (fun k hk => h k (by simp [hk]))
theorem ckPrev_seq (M : Nat) (ops : List Oper) (prev : Option Nat) (hp : ∀ j, prev = some j → j < ops.length) (past : List Nat) (h : ∀ i ∈ past, i < ops.length) : ckPrev M ops (bfS ops.length) prev past = [] := by
  cases prev with
  | none => rfl
  | some j => exact ckOf_seq M ops j (hp j rfl) past 0 h
theorem itemsS_eq (M : Nat) (ops : List Oper) : ∀ (r pre : List Oper) (prev : Option Nat), ops = pre ++ r → (∀ j, prev = some j → j < pre.length) →
    itemsS M ops r (pdOf ops (List.range pre.length).reverse) = itemsOf M ops (bfS ops.length) (List.range' pre.length r.length) (List.range pre.length).reverse prev
  | [], pre, prev, e, hp => by
    have hl : ops.length = pre.length := by rw [e]; simp
    show [] = ckPrev M ops (bfS ops.length) prev (List.range pre.length).reverse
    rw [ckPrev_seq M ops prev (fun j hj => by rw [hl]; exact hp j hj) _ (fun i hi => by rw [hl]; simpa using hi)]
  | o :: r, pre, prev, e, hp => by
    have hl : pre.length < ops.length := by rw [e]; simp
    have ho : ops[pre.length]? = some o := by rw [e]; simp
    have hpast : ∀ i ∈ (List.range pre.length).reverse, i < ops.length := fun i hi => by
      have : i < pre.length := by simpa using hi
      omega
    have next := fun (q : Option Nat) (hq : ∀ j, q = some j → j < (pre ++ [o]).length) => itemsS_eq M ops r (pre ++ [o]) q (by rw [e]; simp) hq
    rw [show (pre ++ [o]).length = pre.length + 1 by simp, List.range_succ, List.reverse_append, List.reverse_singleton] at next
    have hpd : pdOf ops ([pre.length] ++ (List.range pre.length).reverse) = dstOf o :: pdOf ops (List.range pre.length).reverse := by
      show ((ops[pre.length]?).bind (·.dst)) :: pdOf ops (List.range pre.length).reverse = _
      rw [ho]; rfl
    rw [hpd] at next
    rw [show (o :: r).length = r.length + 1 from rfl, List.range'_succ]
    show It.op (mapOK (encK M (pdOf ops (List.range pre.length).reverse)) o.op) (guardK M ops (pdOf ops (List.range pre.length).reverse) o) :: itemsS M ops r (dstOf o :: pdOf ops (List.range pre.length).reverse) = _
    have he : encK M (pdOf ops (List.range pre.length).reverse) = enc M ops (List.range pre.length).reverse 0 := funext fun x => encK_eq M ops _ hpast x
    rw [mapOK_eq, he, guardK_eq M ops _ hpast]
    unfold itemsOf
    rw [ho]
    simp only
    by_cases hld : isLoud o.op = true
    · rw [if_pos hld, ckPrev_seq M ops prev (fun j hj => by have := hp j hj; omega) _ hpast, next (some pre.length) (fun j hj => by injection hj with hj; omega)]
      rfl
    · rw [if_neg hld, next prev (fun j hj => by have := hp j hj; omega)]
      rfl
theorem dstsR_eq (l : List Oper) (acc : List (Option Nat)) : dstsR l acc = (l.map (·.dst)).reverse ++ acc := by
  induction l generalizing acc with
  | nil => rfl
  | cons o r ih => show dstsR r (dstOf o :: acc) = _; rw [ih]; simp [dstOf]
theorem outsS_eq (M : Nat) (ops : List Oper) : ∀ (past : List Nat) (n : Nat), (∀ i ∈ past, i < ops.length) → outsS M (pdOf ops past) n = outsOf M ops past n
  | [], _, _ => rfl
  | i :: r, n, h => by
    have hi := List.getElem?_eq_getElem (h i (by simp))
    have hr := outsS_eq M ops r (n + 1) (fun j hj => h j (by simp [hj]))
    have e : pdOf ops (i :: r) = (ops[i]'(h i (by simp))).dst :: pdOf ops r := by
      show ((ops[i]?).bind (·.dst)) :: pdOf ops r = _
      rw [hi]; rfl
    rw [e]
    unfold outsOf
    rw [hi]
    simp only
    cases (ops[i]'(h i (by simp))).dst with
    | none => exact hr
    | some t =>
      show (Bool.rec (outsS M (pdOf ops r) (n + 1)) ((pathOf t, n) :: outsS M (pdOf ops r) (n + 1)) (bitAt M t) : List (Pt × Nat)) = if M.testBit t = true then (pathOf t, n) :: outsOf M ops r (n + 1) else outsOf M ops r (n + 1)
      rw [bitAt_eq, hr]
      cases M.testBit t <;> simp
theorem planB_eq (M : Nat) (l : List Oper) (d : Bool) : planB M l d = .mk (itemsOf M l (bfOf l d) (odOf l d) [] none) (outsOf M l (odOf l d).reverse 0) := by
  cases d with
  | true => rfl
  | false =>
    show Plan.mk (itemsS M l l []) (outsS M (dstsR l []) 0) = _
    have h1 := itemsS_eq M l l [] none rfl (by intro j hj; cases hj)
    have h2 := outsS_eq M l (List.range l.length).reverse 0 (fun i hi => by simpa using hi)
    have h3 : dstsR l [] = pdOf l (List.range l.length).reverse := by
      rw [dstsR_eq, List.append_nil]
      unfold pdOf
      rw [List.map_reverse]
      congr 1
      apply List.ext_getElem?
      intro i
      by_cases hi : i < l.length
      · simp [hi]
      · simp [hi]
    rw [h3, h2, show itemsS M l l [] = itemsS M l l (pdOf l (List.range ([] : List Oper).length).reverse) from rfl, h1]
    rw [show List.range' ([] : List Oper).length l.length = List.range l.length from List.range_eq_range'.symm]
    rfl
theorem planA_spec {M : Nat} {ops : Array Oper} {d : Bool} {p : Plan → Bool} (hn : p .no = false) (h : p (planA M ops d) = true) :
    valid ops.toList (bfOf ops.toList d) (odOf ops.toList d) [] 0 0 = true ∧ p (.mk (itemsOf M ops.toList (bfOf ops.toList d) (odOf ops.toList d) [] none) (outsOf M ops.toList (odOf ops.toList d).reverse 0)) = true := by
  unfold planA at h
  cases hv : validK ops.toList d with
  | false => rw [hv] at h; rw [show (Bool.rec Plan.no (planB M ops.toList d) false : Plan) = .no from rfl, hn] at h; cases h
  | true =>
    rw [hv] at h
    exact ⟨validK_ok hv, by rw [← planB_eq]; exact h⟩
end Go.Proofs.YtkdjhegkcfmkoaaGreat.AM
namespace Go.Proofs.YtkdjhegkcfmkoaaGreat.AM
open Go.AM
set_option maxRecDepth 100000
variable {M : Nat} {F : Fr}
theorem follows_mixed : Tryz.prog.follows .mixedOrders = true := by kernel_rfl
/-- the beginning of a region -/
theorem start_inv {ops : List Oper} {bf od : List Nat} {V : Nat → AV} {Hs : Nat → H} (g : Good ops bf od) (R : RunF M ops bf od F V Hs) {φ : Phi} {a : Act} {w : World} (hm : Mem φ (Hs 0) w) :
    ValI ops od V a (fun _ => false) φ a ∧ ∃ s, MemI ops bf od Hs φ w (fun _ => false) s φ w := by
  refine ⟨⟨fun p i o t _ h => (by cases h), fun t _ => rfl, rfl, fun d hd => Or.inl hd⟩, ?_⟩
  obtain ⟨s, _, h2, h3, h4⟩ := next_stage ops od od.length 0 (by omega)
  have gr := fun d (hd : d ≤ s) => growH g R (p := 0) hm.clean d (by omega) (fun x j hx hx2 hj => h3 x j hx (by omega) hj)
  have hs := gr s (Nat.le_refl _)
  rw [Nat.zero_add] at hs
  have mono : ∀ p, p ≤ od.length → (Hs 0).nx.num ≤ (Hs p).nx.num := fun p hp => by
    have := nxMono g R (p := 0) p (by omega)
    rwa [Nat.zero_add] at this
  refine ⟨s, h2, fun p i hp hi hl => absurd hl (h3 p i (Nat.zero_le _) hp hi), fun _ _ _ _ => rfl, h4, (fun i j h => by cases h), hm.grow (mono s h2) hs.2.1 hs.1, Kept.refl _ _, Old.refl _ _, fun p hp => ?_, fun p i o hi _ _ _ _ => ?_⟩
  · have := (gr p hp).1
    rwa [Nat.zero_add] at this
  · exact hm.fresh _ (mono p (Nat.le_of_lt (List.getElem?_eq_some_iff.1 hi).1))
theorem region_ok {cl : Cl} (hcl : ClOk cl) (hM : ∀ t, M.testBit t = true → t < 512) {id : Nat} {ops : Array Oper} {dr : Bool} {h : H} {k : Fr → H → Bool} (hh : runPlan cl (planA M ops dr) F h k = true) :
    ∃ F' h', k F' h' = true ∧ h.nx.num ≤ h'.nx.num ∧ ∀ (φ : Phi) (a : Act) (w : World) (Q : Exit → Act → World → Prop), FrR M φ F a → Mem φ h w → (∀ (i : Nat) o t, ops.toList[i]? = some o → o.dst = some t → t < a.tmps.size) → (∀ d ∈ a.defers, IdleD d) →
      (∀ φ' a' w', FrR M φ' F' a' → Mem φ' h' w' → Kept φ w φ' w' → Old h.nx.num φ φ' → a'.tmps.size = a.tmps.size → (∀ d ∈ a'.defers, IdleD d) → Q .normal a' w') → (Code.region id ops dr).wp Tryz.prog Q a w := by
  obtain ⟨hval, hh⟩ := planA_spec (p := fun p => runPlan cl p F h k) rfl hh
  have g := good_of_valid hval
  have hh : runIts cl F (itemsOf M ops.toList (bfOf ops.toList dr) (odOf ops.toList dr) [] none) [] h (fun E h => outF E (outsOf M ops.toList (odOf ops.toList dr).reverse 0) F fun F => k F h) = true := hh
  obtain ⟨V, Hs, h0, h1, R⟩ := runF_of hcl g hh
  obtain ⟨F', h2, h3⟩ := outs_spec hM _ _ _ _ (fun i hi => by
    obtain ⟨p, hp⟩ := List.mem_iff_getElem?.1 (List.mem_reverse.1 hi)
    obtain ⟨o, ho, _⟩ := g.ok p i hp
    exact ⟨o, ho⟩) h1
  have hnx := nxMono g R (p := 0) (odOf ops.toList dr).length (by omega)
  rw [Nat.zero_add, h0] at hnx
  refine ⟨F', Hs (odOf ops.toList dr).length, h2, hnx, fun φ a w Q hfr hm hdst hidle hQ => ?_⟩
  have fin : ∀ (φ : Phi) (w : World) (w0 : World), FrR M φ F a → Kept φ w0 φ w → (∀ φ' a' w', FrR M φ' F' a' → Mem φ' (Hs (odOf ops.toList dr).length) w' → Kept φ w φ' w' → Old h.nx.num φ φ' → a'.tmps.size = a.tmps.size → (∀ d ∈ a'.defers, IdleD d) → Q .normal a' w') →
      ∀ L s φ' a' w', (∀ i, i < ops.size → L i = true) → ValI ops.toList (odOf ops.toList dr) V a L φ' a' → MemI ops.toList (bfOf ops.toList dr) (odOf ops.toList dr) Hs φ w L s φ' w' → Q .normal a' w' := by
    intro φ w w0 hfr _ hQ L s φ' a' w' hall hv hmi
    have hlt : ∀ (p i : Nat), (odOf ops.toList dr)[p]? = some i → L i = true := fun p i hp => by
      obtain ⟨o, ho, _⟩ := g.ok p i hp
      have := (List.getElem?_eq_some_iff.1 ho).1
      exact hall i (by rwa [Array.length_toList] at this)
    have hs : s = (odOf ops.toList dr).length := by
      have h5 := hmi.hs
      rcases hmi.stage with e | ⟨i, hi, _⟩
      · exact e
      · have := hmi.behind s i (Nat.le_refl _) hi
        rw [hlt s i hi] at this; cases this
    subst hs
    refine hQ φ' a' w' (fun t ht => ?_) hmi.mem hmi.kept (by rw [← h0]; exact hmi.old) hv.size (fun d hd => (hv.defs d hd).elim (hidle d) (fun h => h))
    rcases h3 t ht with ⟨q, i, o, v, a1, a2, a3, a4, a5⟩ | ⟨b1, b2⟩
    · have hq : q < (odOf ops.toList dr).length := by
        have := (List.getElem?_eq_some_iff.1 a1).1; simpa using this
      rw [List.getElem?_reverse hq] at a1
      rw [Nat.zero_add, EsF_get V _ q hq] at a4
      injection a4 with a4
      subst a4
      rw [a5]
      exact hv.vals _ i o t a1 (hlt _ i a1) a2 a3
    · rw [b2, hv.rest t (fun p i o hp _ ho => ?_)]
      · exact RV.mono hmi.kept.le _ _ (hfr t ht)
      · have hpl := (List.getElem?_eq_some_iff.1 hp).1
        refine b1 ((odOf ops.toList dr).length - 1 - p) i o ?_ ho
        rw [List.getElem?_reverse (by omega)]
        rw [show (odOf ops.toList dr).length - 1 - ((odOf ops.toList dr).length - 1 - p) = p by omega]
        exact hp
  cases dr with
  | true =>
    refine wp_region_any follows_mixed ?_
    have hmd : Mem φ (Hs 0) w.drew := by rw [h0]; exact hm.drew
    obtain ⟨hv, s, hmi⟩ := start_inv g R (a := a) hmd
    refine region_any g R hfr hdst bfOk_draw.1 bfOk_draw.2 (fin φ w.drew w hfr (Kept.drew φ w) (fun φ' a' w' q1 q2 q3 q4 q5 q6 => hQ φ' a' w' q1 q2 ((Kept.drew φ w).trans q3) q4 q5 q6)) ops.size _ (fun _ => false) s φ a w.drew (List.range ops.size) (by simp) (fun j => ?_) (fun i hi _ => List.mem_range.2 hi) (by simp) hv hmi
    by_cases hj : j < ops.size
    · simp [Array.getD_eq_getD_getElem?, hj]
    · simp [Array.getD_eq_getD_getElem?, hj]
  | false =>
    refine wp_region ?_
    have hmd : Mem φ (Hs 0) w := by rw [h0]; exact hm
    obtain ⟨hv, s, hmi⟩ := start_inv g R (a := a) hmd
    have e : odOf ops.toList false = List.range ops.size := by
      show List.range ops.toList.length = _
      rw [Array.length_toList]
    have hf := fin φ w w hfr (Kept.refl φ w) hQ
    rw [e] at hf hv hmi g R
    have := region_seq g R hfr hdst hf ops.size 0 (fun _ => false) s φ a w (by omega) (fun j => by simp) hv hmi
    simpa using this
end Go.Proofs.YtkdjhegkcfmkoaaGreat.AM
namespace Go.Proofs.YtkdjhegkcfmkoaaGreat.AM
open Go.AM
set_option maxRecDepth 100000
/-- a loop, from its body on -/
def LoopIn (c : Code) (Q : Exit → Act → World → Prop) (a : Act) (w : World) : Prop := ∀ (b : Frame) (k : List Item) (cs : List Frame), ∃ e a' w', Q e a' w' ∧ Arrives Tryz.prog (lone (b.at a (.code c :: .inLoop c :: k)) cs w) b k cs e a' w'
theorem LoopIn.wp {c : Code} {Q : Exit → Act → World → Prop} {a : Act} {w : World} (h : LoopIn c Q a w) : (Code.loop c).wp Tryz.prog Q a w := fun b k cs => by
  obtain ⟨e, a', w', hq, harr⟩ := h b k cs
  exact ⟨e, a', w', hq, .of_steps (.one step_loop) harr⟩
theorem LoopIn.round {c : Code} {Q : Exit → Act → World → Prop} {a : Act} {w : World} (h : c.wp Tryz.prog (Exit.then (LoopIn c Q) Q) a w) : LoopIn c Q a w := by
  intro b k cs
  obtain ⟨e, a₁, w₁, hq, harr⟩ := h b (.inLoop c :: k) cs
  cases e with
  | normal =>
    obtain ⟨e₂, a₂, w₂, hq₂, harr₂⟩ := hq b k cs
    exact ⟨e₂, a₂, w₂, hq₂, .of_steps (Steps.trans harr (.one step_inLoop)) harr₂⟩
  | exit id => exact ⟨_, a₁, w₁, hq, .pass (x := .inLoop c) rfl (fun _ _ => .inl (by simp)) harr⟩
  | goto l => exact ⟨_, a₁, w₁, hq, .pass (x := .inLoop c) rfl (fun _ _ => .inl (by simp)) harr⟩
  | ret => exact ⟨_, a₁, w₁, hq, .pass (x := .inLoop c) rfl (fun _ _ => .inl (by simp)) harr⟩
  | panic ch => exact ⟨_, a₁, w₁, hq, .pass (x := .inLoop c) rfl (fun _ _ => .inl (by simp)) harr⟩
  | outgrown => exact ⟨_, a₁, w₁, hq, .pass (x := .inLoop c) rfl (fun _ _ => .inl (by simp)) harr⟩
/-- what code does; a loop from its body on -/
def wpL (c : Code) (Q : Exit → Act → World → Prop) (a : Act) (w : World) : Prop := match c with
  | .loop b => LoopIn b Q a w
  | c => c.wp Tryz.prog Q a w
theorem wpL.wp {c : Code} {Q : Exit → Act → World → Prop} {a : Act} {w : World} (h : wpL c Q a w) : c.wp Tryz.prog Q a w := by
  cases c with
  | loop b => exact LoopIn.wp h
  | _ => exact h
def exitOf (x : X) : Exit := match x with | .normal => .normal | .ret => .ret | .exit id => .exit id
/-- how things stand behind code -/
structure Post (M : Nat) (φ : Phi) (h : H) (a : Act) (w : World) (F' : Fr) (h' : H) (φ' : Phi) (a' : Act) (w' : World) : Prop where
  fr : FrR M φ' F' a'
  mem : Mem φ' h' w'
  kept : Kept φ w φ' w'
  old : Old h.nx.num φ φ'
  size : a'.tmps.size = a.tmps.size
  idle : ∀ d ∈ a'.defers, IdleD d
theorem Post.trans {M : Nat} {φ φ1 φ2 : Phi} {h h1 h2 : H} {a a1 a2 : Act} {w w1 w2 : World} {F1 F2 : Fr} (p : Post M φ h a w F1 h1 φ1 a1 w1) (q : Post M φ1 h1 a1 w1 F2 h2 φ2 a2 w2) (hn : h.nx.num ≤ h1.nx.num) : Post M φ h a w F2 h2 φ2 a2 w2 :=
  ⟨q.fr, q.mem, p.kept.trans q.kept, p.old.trans q.old hn, by rw [q.size, p.size], q.idle⟩
/-- what comes of code -/
def Res (c : Code) (M : Nat) (F : Fr) (h : H) (k : K3) : Prop := ∃ x F' h', k x F' h' = true ∧ h.nx.num ≤ h'.nx.num ∧
  ∀ (φ : Phi) (a : Act) (w : World) (Q : Exit → Act → World → Prop), FrR M φ F a → Mem φ h w → dstsIn a.tmps.size c = true → (∀ d ∈ a.defers, IdleD d) → (∀ φ' a' w', Post M φ h a w F' h' φ' a' w' → Q (exitOf x) a' w') → wpL c Q a w
/-- an evaluator of code that is true of the model's -/
def CodeAt (c : Code) (ev : Nat → Fr → H → K3 → Bool) : Prop := ∀ M F h (k : K3), (∀ t, M.testBit t = true → t < 512) → ev M F h k = true → Res c M F h k
def CodeOk (ev : Ev) : Prop := ∀ c, CodeAt c (ev c)
theorem rdF_spec {M : Nat} {F : Fr} {x : Operand} {k : K1} (hh : rdF M F x k = true) : ∃ v, k v = true ∧ ∀ (φ : Phi) a, FrR M φ F a → RV φ v (a.eval x) := by
  cases x with
  | tmp t =>
    obtain ⟨e, g⟩ := boolRec_t (show (Bool.rec false (Fr.get F (pathOf t) k) (M.testBit t) : Bool) = true from hh)
    rw [Fr.get_eq] at g
    exact ⟨_, g, fun φ a hfr => hfr t e⟩
  | const v => exact ⟨_, hh, fun φ a _ => absV_ok φ v⟩
  | global g => cases hh
  | func f => cases hh
theorem code_step {ev : Ev} {cl : Cl} (ih : CodeOk ev) (hcl : ClOk cl) : ∀ c, CodeAt c (evC c ev cl) := by
  intro c M F h k hM hh
  have base : ∀ {x : X}, k x F h = true → (∀ (Q : Exit → Act → World → Prop) a w, Q (exitOf x) a w → wpL c Q a w) → Res c M F h k := fun {x} hk hw =>
    ⟨x, F, h, hk, Nat.le_refl _, fun φ a w Q hfr hm _ hidle hQ => hw Q a w (hQ φ a w ⟨hfr, hm, Kept.refl _ _, Old.refl _ _, rfl, hidle⟩)⟩
  cases c with
  | skip => exact base (x := .normal) hh (fun Q a w hq => wp_skip hq)
  | label l => exact base (x := .normal) hh (fun Q a w hq => wp_label hq)
  | exit id => exact base (x := .exit id) hh (fun Q a w hq => wp_exit hq)
  | ret => exact base (x := .ret) hh (fun Q a w hq => wp_ret hq)
  | rangeFunc f ps a b => cases hh
  | goto l => cases hh
  | refuse s => cases hh
  | region id ops d =>
    obtain ⟨F', h', h1, h2, h3⟩ := region_ok (id := id) hcl hM (show runPlan cl (planA M ops d) F h (fun F h => k .normal F h) = true from hh)
    refine ⟨.normal, F', h', h1, h2, fun φ a w Q hfr hm hd hidle hQ => ?_⟩
    refine h3 φ a w Q hfr hm (fun i o t ho ht => ?_) hidle (fun φ' a' w' q1 q2 q3 q4 q5 q6 => hQ φ' a' w' ⟨q1, q2, q3, q4, q5, q6⟩)
    have := List.all_eq_true.1 (show (ops.toList.all fun o => match o.dst with | some t => Nat.blt t a.tmps.size | none => true) = true from hd) o (List.mem_of_getElem? ho)
    rw [ht] at this
    exact (Nat.blt_eq ▸ this : t < a.tmps.size)
  | seq x y =>
    obtain ⟨e1, F1, h1, g1, n1, s1⟩ := ih x M F h _ hM (show ev x M F h (fun x F h => ifNormal x (ev y M F h k) (k x F h)) = true from hh)
    have stop : e1 ≠ .normal → k e1 F1 h1 = true → Res (.seq x y) M F h k := fun hne hk => ⟨e1, F1, h1, hk, n1, fun φ a w Q hfr hm hd hidle hQ => wp_seq (wpL.wp (s1 φ a w _ hfr hm (by simp only [dstsIn, Bool.and_eq_true] at hd; exact hd.1) hidle (fun φ' a' w' p => by
      have := hQ φ' a' w' p
      cases e1 with
      | normal => exact absurd rfl hne
      | ret => exact this
      | exit id => exact this)))⟩
    cases e1 with
    | ret => exact stop (by intro e; cases e) g1
    | exit id => exact stop (by intro e; cases e) g1
    | normal =>
      obtain ⟨e2, F2, h2, g2, n2, s2⟩ := ih y M F1 h1 k hM g1
      refine ⟨e2, F2, h2, g2, Nat.le_trans n1 n2, fun φ a w Q hfr hm hd hidle hQ => ?_⟩
      have hd' : dstsIn a.tmps.size x = true ∧ dstsIn a.tmps.size y = true := by simpa only [dstsIn, Bool.and_eq_true] using hd
      refine wp_seq (wpL.wp (s1 φ a w _ hfr hm hd'.1 hidle (fun φ' a' w' p => ?_)))
      exact wpL.wp (s2 φ' a' w' Q p.fr p.mem (by rw [p.size]; exact hd'.2) p.idle (fun φ2 a2 w2 q => hQ φ2 a2 w2 (p.trans q n1)))
  | cond x y z =>
    obtain ⟨v, g, hv⟩ := rdF_spec (show rdF M F x (fun v => AV.onBool v fun t => Bool.rec (ev z M F h k) (ev y M F h k) t) = true from hh)
    obtain ⟨t, rfl, g1⟩ := onBool_spec g
    cases t with
    | true =>
      obtain ⟨e1, F1, h1, g2, n1, s1⟩ := ih y M F h k hM g1
      refine ⟨e1, F1, h1, g2, n1, fun φ a w Q hfr hm hd hidle hQ => ?_⟩
      have hd' : dstsIn a.tmps.size y = true ∧ dstsIn a.tmps.size z = true := by simpa only [dstsIn, Bool.and_eq_true] using hd
      exact wp_cond_true (RV_bool.1 (hv φ a hfr)) (wpL.wp (s1 φ a w Q hfr hm hd'.1 hidle hQ))
    | false =>
      obtain ⟨e1, F1, h1, g2, n1, s1⟩ := ih z M F h k hM g1
      refine ⟨e1, F1, h1, g2, n1, fun φ a w Q hfr hm hd hidle hQ => ?_⟩
      have hd' : dstsIn a.tmps.size y = true ∧ dstsIn a.tmps.size z = true := by simpa only [dstsIn, Bool.and_eq_true] using hd
      exact wp_cond_false (RV_bool.1 (hv φ a hfr)) (wpL.wp (s1 φ a w Q hfr hm hd'.2 hidle hQ))
  | block id x =>
    obtain ⟨e1, F1, h1, g1, n1, s1⟩ := ih x M F h _ hM (show ev x M F h (fun x F h => X.rec (k .normal F h) (k .ret F h) (fun j => Bool.rec (k (.exit j) F h) (k .normal F h) (j.beq id)) x) = true from hh)
    have go : ∀ e : X, k e F1 h1 = true → (∀ (Q : Exit → Act → World → Prop) a w, Q (exitOf e) a w → Exit.inBlock id Q (exitOf e1) a w) → Res (.block id x) M F h k := fun e hk hq =>
      ⟨e, F1, h1, hk, n1, fun φ a w Q hfr hm hd hidle hQ => wp_block (wpL.wp (s1 φ a w _ hfr hm hd hidle (fun φ' a' w' p => hq Q a' w' (hQ φ' a' w' ⟨p.fr, p.mem, p.kept, p.old, p.size, p.idle⟩))))⟩
    cases e1 with
    | normal => exact go .normal g1 (fun Q a w hq => hq)
    | ret => exact go .ret g1 (fun Q a w hq => hq)
    | exit j =>
      have g1 : (Bool.rec (k (.exit j) F1 h1) (k .normal F1 h1) (j.beq id) : Bool) = true := g1
      cases hb : j.beq id with
      | true =>
        rw [hb] at g1
        exact go .normal g1 (fun Q a w hq => by
          show (if j = id then Q .normal a w else Q (.exit j) a w)
          rw [if_pos ((beq_iff _ _).1 hb)]; exact hq)
      | false =>
        rw [hb] at g1
        exact go (.exit j) g1 (fun Q a w hq => by
          show (if j = id then Q .normal a w else Q (.exit j) a w)
          rw [if_neg (fun e => by rw [(beq_iff _ _).2 e] at hb; cases hb)]; exact hq)
  | loop x =>
    obtain ⟨e1, F1, h1, g1, n1, s1⟩ := ih x M F h _ hM (show ev x M F h (fun y F h => ifNormal y (ev (.loop x) M F h k) (k y F h)) = true from hh)
    have stop : e1 ≠ .normal → k e1 F1 h1 = true → Res (.loop x) M F h k := fun hne hk => ⟨e1, F1, h1, hk, n1, fun φ a w Q hfr hm hd hidle hQ => LoopIn.round (wpL.wp (s1 φ a w _ hfr hm hd hidle (fun φ' a' w' p => by
      have := hQ φ' a' w' p
      cases e1 with
      | normal => exact absurd rfl hne
      | ret => exact this
      | exit id => exact this)))⟩
    cases e1 with
    | ret => exact stop (by intro e; cases e) g1
    | exit id => exact stop (by intro e; cases e) g1
    | normal =>
      obtain ⟨e2, F2, h2, g2, n2, s2⟩ := ih (.loop x) M F1 h1 k hM g1
      refine ⟨e2, F2, h2, g2, Nat.le_trans n1 n2, fun φ a w Q hfr hm hd hidle hQ => LoopIn.round (wpL.wp (s1 φ a w _ hfr hm hd hidle (fun φ' a' w' p => ?_)))⟩
      exact s2 φ' a' w' Q p.fr p.mem (by rw [p.size]; exact hd) p.idle (fun φ2 a2 w2 q => hQ φ2 a2 w2 (p.trans q n1))
  | scope x =>
    obtain ⟨e1, F1, h1, g1, n1, s1⟩ := ih x M F h k hM hh
    refine ⟨e1, F1, h1, g1, n1, fun φ a w Q hfr hm hd hidle hQ => wp_scope_straight (wpL.wp (s1 φ a w _ hfr hm hd hidle (fun φ' a' w' p => by
      have := hQ φ' a' w' p
      cases e1 <;> exact this)))⟩
end Go.Proofs.YtkdjhegkcfmkoaaGreat.AM
