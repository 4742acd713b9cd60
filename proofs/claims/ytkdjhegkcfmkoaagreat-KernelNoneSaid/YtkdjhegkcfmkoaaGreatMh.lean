/- The abstract machine over this program: what the check of a region's order says. -/
import Derived.Test.YtkdjhegkcfmkoaaGreatMd
import Derived.Test.YtkdjhegkcfmkoaaGreatMg
namespace Go.Proofs.YtkdjhegkcfmkoaaGreat.AM
open Go.AM
noncomputable def mk (l : List Nat) : Nat := l.foldr (fun i s => s ||| 2 ^ i) 0
noncomputable def ldm (ops : List Oper) (l : List Nat) : Nat := l.foldr (fun i s => match ops[i]? with | some o => if isLoud o.op then s ||| 2 ^ i else s | none => s) 0
theorem mk_bit (l : List Nat) (j : Nat) : (mk l).testBit j = true ↔ j ∈ l := by
  induction l with
  | nil => simp [mk]
  | cons a t ih =>
    show (mk t ||| 2 ^ a).testBit j = true ↔ _
    rw [Nat.testBit_or, Nat.testBit_two_pow, Bool.or_eq_true, ih, decide_eq_true_iff, List.mem_cons]
    constructor
    · rintro (h | h)
      · exact Or.inr h
      · exact Or.inl h.symm
    · rintro (h | h)
      · exact Or.inr h.symm
      · exact Or.inl h
theorem ldm_bit (ops : List Oper) (l : List Nat) (j : Nat) : (ldm ops l).testBit j = true ↔ j ∈ l ∧ ∃ o, ops[j]? = some o ∧ isLoud o.op = true := by
  induction l with
  | nil => simp [ldm]
  | cons a t ih =>
    show (match ops[a]? with | some o => if isLoud o.op then ldm ops t ||| 2 ^ a else ldm ops t | none => ldm ops t).testBit j = true ↔ _
    rw [List.mem_cons]
    cases ho : ops[a]? with
    | none =>
      simp only [ih]
      constructor
      · rintro ⟨h1, h2⟩; exact ⟨Or.inr h1, h2⟩
      · rintro ⟨h1, o, h2, h3⟩
        rcases h1 with rfl | h1
        · rw [ho] at h2; cases h2
        · exact ⟨h1, o, h2, h3⟩
    | some o =>
      cases hl : isLoud o.op with
      | true =>
        simp only [hl, if_true]
        rw [Nat.testBit_or, Nat.testBit_two_pow, Bool.or_eq_true, ih, decide_eq_true_iff]
        constructor
        · rintro (⟨h1, h2⟩ | h)
          · exact ⟨Or.inr h1, h2⟩
          · subst h; exact ⟨Or.inl rfl, o, ho, hl⟩
        · rintro ⟨h1, h2⟩
          rcases h1 with h1 | h1
          · exact Or.inr h1.symm
          · exact Or.inl ⟨h1, h2⟩
      | false =>
        simp only [hl, Bool.false_eq_true, if_false, ih]
        constructor
        · rintro ⟨h1, h2⟩; exact ⟨Or.inr h1, h2⟩
        · rintro ⟨h1, o', h2, h3⟩
          rcases h1 with rfl | h1
          · rw [ho] at h2; injection h2 with h2; subst h2; rw [hl] at h3; cases h3
          · exact ⟨h1, o', h2, h3⟩
theorem or_eq_sub {a b : Nat} (h : (a ||| b) = b) (j : Nat) (hj : a.testBit j = true) : b.testBit j = true := by
  rw [← h, Nat.testBit_or, hj]; rfl
theorem seenAt_cons (ops : List Oper) (t i : Nat) (r : List Nat) : (∃ o, ops[i]? = some o ∧ o.dst = some t ∧ seenAt ops t (i :: r) = some 0) ∨ ((∀ o, ops[i]? = some o → o.dst ≠ some t) ∧ seenAt ops t (i :: r) = (seenAt ops t r).map (· + 1)) := by
  cases ho : ops[i]? with
  | none =>
    exact Or.inr ⟨fun o h => (by cases h), (by rw [seenAt]; simp [ho])⟩
  | some o =>
    by_cases hd : o.dst = some t
    · exact Or.inl ⟨o, rfl, hd, by rw [seenAt]; simp [ho, hd]⟩
    · exact Or.inr ⟨fun o' h => (by injection h with h; subst h; exact hd), (by rw [seenAt]; simp [ho, hd])⟩
theorem seenAt_some {ops : List Oper} {t : Nat} : ∀ {past : List Nat} {q : Nat}, seenAt ops t past = some q → ∃ j o, past[q]? = some j ∧ ops[j]? = some o ∧ o.dst = some t := by
  intro past
  induction past with
  | nil => intro q h; cases h
  | cons i r ih =>
    intro q h
    rcases seenAt_cons ops t i r with ⟨o, ho, hd, hs⟩ | ⟨_, hs⟩
    · rw [hs] at h
      injection h with h
      subst h
      exact ⟨i, o, rfl, ho, hd⟩
    · rw [hs] at h
      cases hr : seenAt ops t r with
      | none => rw [hr] at h; cases h
      | some q' =>
        rw [hr] at h
        injection h with h
        subst h
        obtain ⟨j, o, h1, h2, h3⟩ := ih hr
        exact ⟨j, o, by simpa using h1, h2, h3⟩
theorem seenAt_none {ops : List Oper} {t : Nat} : ∀ {past : List Nat}, seenAt ops t past = none → ∀ j ∈ past, ∀ o, ops[j]? = some o → o.dst ≠ some t := by
  intro past
  induction past with
  | nil => intro h j hj; cases hj
  | cons i r ih =>
    intro h j hj o ho
    rcases seenAt_cons ops t i r with ⟨o, _, _, hs⟩ | ⟨hn, hs⟩
    · rw [hs] at h; cases h
    · rw [hs] at h
      cases hr : seenAt ops t r with
      | some q => rw [hr] at h; cases h
      | none =>
        rcases List.mem_cons.1 hj with rfl | hj
        · exact hn o ho
        · exact ih hr j hj o ho
abbrev bfA (bf : List Nat) (i : Nat) : Nat := bf.getD i 0
def LoudAt (ops : List Oper) (j : Nat) : Prop := ∃ o, ops[j]? = some o ∧ isLoud o.op = true
/-- an operation may come next behind those -/
structure OkOp (ops : List Oper) (bf past : List Nat) (i : Nat) (o : Oper) : Prop where
  new : i ∉ past
  bits : ∀ j, (bfA bf i).testBit j = true → j ∈ past
  loud : ∀ j ∈ past, LoudAt ops j → (bfA bf i).testBit j = true
  look : ∀ t ∈ looksL ops o, ∀ q, seenAt ops t past = some q → ∃ j, past[q]? = some j ∧ (bfA bf i).testBit j = true
  own : ∀ t, o.dst = some t → t ∉ looksL ops o
  dst : ∀ t, o.dst = some t → ∀ j ∈ past, ∀ p, ops[j]? = some p → p.dst ≠ some t ∧ (t ∈ looksL ops p → (bfA bf i).testBit j = true)
  guard : ∀ j b, o.guard = some (j, b) → (bfA bf i).testBit j = true
theorem okOp_spec {ops : List Oper} {bf past : List Nat} {i : Nat} {o : Oper} (h : okOp ops bf past (mk past) (ldm ops past) i o = true) : OkOp ops bf past i o := by
  unfold okOp at h
  simp only [Bool.and_eq_true] at h
  obtain ⟨⟨⟨⟨⟨h1, h2⟩, h3⟩, h4⟩, h5⟩, h6⟩ := h
  refine ⟨?_, ?_, ?_, ?_, ?_, ?_, ?_⟩
  · intro hm
    rw [(mk_bit past i).2 hm] at h1; cases h1
  · intro j hj
    exact (mk_bit past j).1 (or_eq_sub (by simpa using h2) j hj)
  · intro j hj hl
    exact or_eq_sub (by simpa using h3) j ((ldm_bit ops past j).2 ⟨hj, hl⟩)
  · intro t ht q hq
    have := List.all_eq_true.1 h4 t ht
    rw [hq] at this
    cases hp : past[q]? with
    | none => simp only [hp] at this; cases this
    | some j => simp only [hp] at this; exact ⟨j, rfl, this⟩
  · intro t ht hl
    rw [ht] at h5
    simp only [Bool.and_eq_true] at h5
    have := h5.1
    simp [hl] at this
  · intro t ht j hj p hp
    rw [ht] at h5
    simp only [Bool.and_eq_true] at h5
    have := List.all_eq_true.1 h5.2 j hj
    rw [hp] at this
    simp only [Bool.and_eq_true, bne_iff_ne, Bool.or_eq_true, Bool.not_eq_true'] at this
    refine ⟨this.1, fun hl => ?_⟩
    rcases this.2 with h | h
    · simp [hl] at h
    · exact h
  · intro j b hg
    rw [hg] at h6; exact h6
theorem valid_spec {ops : List Oper} {bf : List Nat} : ∀ (r past : List Nat), valid ops bf r past (mk past) (ldm ops past) = true →
    (∀ (p i : Nat), r[p]? = some i → ∃ o, ops[i]? = some o ∧ OkOp ops bf ((r.take p).reverse ++ past) i o) ∧ mk (r.reverse ++ past) = 2 ^ ops.length - 1 := by
  intro r
  induction r with
  | nil =>
    intro past h
    refine ⟨fun p i hp => by simp at hp, ?_⟩
    simpa [valid] using h
  | cons i r ih =>
    intro past h
    unfold valid at h
    cases ho : ops[i]? with
    | none => simp only [ho] at h; cases h
    | some o =>
      simp only [ho, Bool.and_eq_true] at h
      obtain ⟨h1, h2⟩ := h
      have e1 : mk (i :: past) = mk past ||| 2 ^ i := rfl
      have e2 : ldm ops (i :: past) = if isLoud o.op then ldm ops past ||| 2 ^ i else ldm ops past := by
        show (match ops[i]? with | some o => if isLoud o.op then ldm ops past ||| 2 ^ i else ldm ops past | none => ldm ops past) = _
        rw [ho]
      rw [← e1, ← e2] at h2
      obtain ⟨h3, h4⟩ := ih (i :: past) h2
      refine ⟨fun p j hp => ?_, by simpa using h4⟩
      cases p with
      | zero =>
        simp at hp
        subst hp
        exact ⟨o, ho, by simpa using okOp_spec h1⟩
      | succ p =>
        obtain ⟨o', h5, h6⟩ := h3 p j (by simpa using hp)
        exact ⟨o', h5, by simpa using h6⟩
end Go.Proofs.YtkdjhegkcfmkoaaGreat.AM
namespace Go.Proofs.YtkdjhegkcfmkoaaGreat.AM
open Go.AM
set_option maxRecDepth 100000
def QuietOk (f : Operand → Operand) (E : List AV) (F : Fr) (o : Oper) (r : AV) : Prop := ∀ φ ρ w, (∀ x ∈ o.op.operands, Rd f E F φ ρ x) → ∃ r', (execOp ρ o).run Tryz.prog w = .ok (.value r') w ∧ RV φ r r'
def ReadOk (f : Operand → Operand) (E : List AV) (F : Fr) (o : Oper) (h : H) (r : AV) : Prop := ∀ hh, h.le hh → ∀ φ ρ w, Mem φ hh w → (∀ x ∈ o.op.operands, Rd f E F φ ρ x) → ∃ r', (execOp ρ o).run Tryz.prog w = .ok (.value r') w ∧ RV φ r r'
/-- a value that names a block -/
def Names (r : AV) (b : Nm) : Prop := r = .ptr b 0 ∨ ∃ n k e, r = .at (.sl b 0 n k e)
/-- what an operation does -/
inductive OpF (f : Operand → Operand) (E : List AV) (F : Fr) (o : Oper) (h h' : H) (r : AV) : Prop
  | quiet (h1 : isLoud o.op = false) (h2 : isBirth o.op = false) (h3 : isRead o.op = false) (h4 : h' = h) (h5 : QuietOk f E F o r)
  | read (h1 : isLoud o.op = false) (h2 : isBirth o.op = false) (h3 : isRead o.op = true) (h4 : h' = h) (h5 : ReadOk f E F o h r)
  | birth (B : Blk) (h1 : isLoud o.op = false) (h2 : isBirth o.op = true) (h3 : B ≠ .no) (h4 : h'.nx.num = h.nx.num + 1) (h5 : ∀ x, h'.at x = if h.nx = x then B else h.at x) (h6 : BirthOk f E F o h.nx B r) (h7 : Names r h.nx)
  | loud (h1 : isLoud o.op = true) (h2 : LoudOk f E F o h h' r)
variable {f : Operand → Operand} {E : List AV} {F : Fr} {o : Oper} {h : H} {c : K2} {cl : Cl}
theorem Quiet.opF (q : Quiet f E F o h c) (h1 : isLoud o.op = false) (h2 : isBirth o.op = false) : ∃ r h', c r h' = true ∧ OpF f E F o h h' r := by
  obtain ⟨r, g1, g2⟩ := q
  cases hr : isRead o.op with
  | false => exact ⟨r, h, g1, .quiet h1 h2 hr rfl g2⟩
  | true => exact ⟨r, h, g1, .read h1 h2 hr rfl (fun _ _ φ ρ w _ => g2 φ ρ w)⟩
theorem Reads.opF (q : Reads f E F o h c) (h1 : isLoud o.op = false) (h2 : isBirth o.op = false) (h3 : isRead o.op = true) : ∃ r h', c r h' = true ∧ OpF f E F o h h' r := by
  obtain ⟨r, g1, g2⟩ := q
  exact ⟨r, h, g1, .read h1 h2 h3 rfl g2⟩
theorem Loud.opF (q : Loud f E F o h c) (h1 : isLoud o.op = true) : ∃ r h', c r h' = true ∧ OpF f E F o h h' r := by
  obtain ⟨r, h', g1, g2⟩ := q
  exact ⟨r, h', g1, .loud h1 g2⟩
def isSlD (d : TypeDesc) : Bool := match d with | .slice _ => true | _ => false
theorem isLoud_conv {s d : TypeId} {x : Operand} (ho : o.op = .convert s d x) : isLoud o.op = isSlD (tDesc d) := by rw [ho]; rfl
theorem isRead_conv {s d : TypeId} {x : Operand} (ho : o.op = .convert s d x) : isRead o.op = isSlD (tDesc s) := by rw [ho]; rfl
theorem evOp_ok (hcl : ClOk cl) (hf : ∀ x, isC (f x) = true → ∃ v, x = .const v) (hh : evOp (mapO f o.op) cl E F h c = true) : ∃ r h', c r h' = true ∧ OpF f E F o h h' r := by
  cases ho : o.op with
  | move x => rw [ho] at hh; exact (q_move (cl := cl) (Or.inl ho) hh).opF (by rw [ho]; rfl) (by rw [ho]; rfl)
  | assign x => rw [ho] at hh; exact (q_move (cl := cl) (Or.inr ho) hh).opF (by rw [ho]; rfl) (by rw [ho]; rfl)
  | pick x a b => rw [ho] at hh; exact (q_pick (cl := cl) ho hh).opF (by rw [ho]; rfl) (by rw [ho]; rfl)
  | alloc t =>
    rw [ho] at hh
    obtain ⟨B, h1, h2, h3⟩ := birth_alloc (show allocBlk t (fun B => newB h B fun i h => c (.ptr i 0) h) = true from hh)
    obtain ⟨h', k1, k2, k3⟩ := newB_spec h2
    exact ⟨_, h', k3, .birth B (by rw [ho]; rfl) (by rw [ho]; rfl) h1 k1 k2 (h3 f E F o ho h.nx) (Or.inl rfl)⟩
  | box t x =>
    rw [ho] at hh
    obtain ⟨v, hv, g⟩ := rd_spec (show rd E F (f x) (fun v => AV.cells v fun l => newRowB l h c) = true from hh)
    obtain ⟨B, h1, h2, h3⟩ := birth_box (f := f) (t := t) hv (show AV.cells v (fun l => rowBlk l fun B => newB h B fun i h => c (.ptr i 0) h) = true from g)
    obtain ⟨h', k1, k2, k3⟩ := newB_spec h2
    exact ⟨_, h', k3, .birth B (by rw [ho]; rfl) (by rw [ho]; rfl) h1 k1 k2 (h3 o ho h.nx) (Or.inl rfl)⟩
  | build t ps => rw [ho] at hh; exact (q_build (cl := cl) ho hh).opF (by rw [ho]; rfl) (by rw [ho]; rfl)
  | buildSlice t n ps =>
    rw [ho] at hh
    obtain ⟨e, B, h1, h2, h3⟩ := birth_bs (f := f) (show bsBlk t n (ps.map fun p => (p.1, f p.2)).toList E F (fun e B => newB h B fun i h => c (.at (.sl i 0 n (some n) e)) h) = true from hh)
    obtain ⟨h', k1, k2, k3⟩ := newB_spec h2
    exact ⟨_, h', k3, .birth B (by rw [ho]; rfl) (by rw [ho]; rfl) h1 k1 k2 (h3 o ho h.nx) (Or.inr ⟨_, _, _, rfl⟩)⟩
  | makeSlice t x y =>
    rw [ho] at hh
    obtain ⟨n, m, e, B, h1, h2, h3⟩ := makeSlice_ok (cl := cl) ho hh
    obtain ⟨h', k1, k2, k3⟩ := newB_spec h2
    exact ⟨_, h', k3, .birth B (by rw [ho]; rfl) (by rw [ho]; rfl) h1 k1 k2 (h3 h.nx) (Or.inr ⟨_, _, _, rfl⟩)⟩
  | load t x => rw [ho] at hh; exact (r_load (cl := cl) ho hh).opF (by rw [ho]; rfl) (by rw [ho]; rfl) (by rw [ho]; rfl)
  | store t a x => rw [ho] at hh; exact (l_store (cl := cl) ho hh).opF (by rw [ho]; rfl)
  | nilCheck x => rw [ho] at hh; exact (q_nilCheck (cl := cl) ho hh).opF (by rw [ho]; rfl) (by rw [ho]; rfl)
  | binOp op t x y u => rw [ho] at hh; exact (q_binOp (cl := cl) hf ho hh).opF (by rw [ho]; rfl) (by rw [ho]; rfl)
  | unOp op t x => rw [ho] at hh; exact (q_unOp (cl := cl) ho hh).opF (by rw [ho]; rfl) (by rw [ho]; rfl)
  | convert s d x =>
    rw [ho] at hh
    cases hk : cvK s d with
    | no =>
      obtain ⟨a, _, hc⟩ := rd_spec (show rd E F (f x) (fun v => CK.rec false (AV.onStr v fun _ _ => c v h) (AV.onStr v fun n l => cellsS l fun l => rowsB n 1 [] l h fun i h => c (.at (.sl i 0 n none 1)) h)
        (AV.onSl v (fun b o n _ e => Bool.rec false (loadA h b o n fun l => bytesL l fun s => c (.at (.str n s)) h) (e.beq 1)) (c (.at (.str 0 [])) h) (c (.at (.str 0 [])) h)) (fun k => AV.onInt v fun _ n => retI k n fun v => c v h) (cvK s d)) = true from hh)
      rw [hk] at hc; cases hc
    | same =>
      have hd : tDesc d = .string := by unfold tDesc; rw [(cvK_same hk).1]
      exact (q_convert_same (cl := cl) ho hk hh).opF ((isLoud_conv ho).trans (by rw [hd]; rfl)) (by rw [ho]; rfl)
    | int k =>
      have hd : tDesc d = .int k := by unfold tDesc; rw [(cvK_int hk).1]
      exact (q_convert_int (cl := cl) ho hk hh).opF ((isLoud_conv ho).trans (by rw [hd]; rfl)) (by rw [ho]; rfl)
    | s2b =>
      obtain ⟨_, el, i, hd, _⟩ := cvK_s2b hk
      have hd : tDesc d = .slice el := by unfold tDesc; rw [hd]
      exact (l_s2b (cl := cl) ho hk hh).opF ((isLoud_conv ho).trans (by rw [hd]; rfl))
    | b2s =>
      obtain ⟨hd, el, hs, _⟩ := cvK_b2s hk
      have hd : tDesc d = .string := by unfold tDesc; rw [hd]
      have hs : tDesc s = .slice el := by unfold tDesc; rw [hs]
      exact (r_b2s (cl := cl) ho hk hh).opF ((isLoud_conv ho).trans (by rw [hd]; rfl)) (by rw [ho]; rfl) ((isRead_conv ho).trans (by rw [hs]; rfl))
  | makeInterface t x => rw [ho] at hh; exact (q_makeInterface (cl := cl) ho hh).opF (by rw [ho]; rfl) (by rw [ho]; rfl)
  | makeFunc g a b => rw [ho] at hh; exact (q_makeFunc (cl := cl) ho hh).opF (by rw [ho]; rfl) (by rw [ho]; rfl)
  | slice t x lo hi mx => rw [ho] at hh; exact (r_slice (cl := cl) ho hh).opF (by rw [ho]; rfl) (by rw [ho]; rfl) (by rw [ho]; rfl)
  | fieldAddr t x i => rw [ho] at hh; exact (q_fieldAddr (cl := cl) ho hh).opF (by rw [ho]; rfl) (by rw [ho]; rfl)
  | field t x i => rw [ho] at hh; exact (q_field (cl := cl) ho hh).opF (by rw [ho]; rfl) (by rw [ho]; rfl)
  | indexAddr t x i => rw [ho] at hh; exact (q_indexAddr (cl := cl) ho hh).opF (by rw [ho]; rfl) (by rw [ho]; rfl)
  | index t x i => rw [ho] at hh; exact (q_index (cl := cl) ho hh).opF (by rw [ho]; rfl) (by rw [ho]; rfl)
  | range t x => rw [ho] at hh; exact (l_range (cl := cl) ho hh).opF (by rw [ho]; rfl)
  | next x s => rw [ho] at hh; exact (l_next (cl := cl) ho hh).opF (by rw [ho]; rfl)
  | typeAssert x s t ok => rw [ho] at hh; exact (q_typeAssert (cl := cl) ho hh).opF (by rw [ho]; rfl) (by rw [ho]; rfl)
  | extract x i => rw [ho] at hh; exact (q_extract (cl := cl) ho hh).opF (by rw [ho]; rfl) (by rw [ho]; rfl)
  | defer x => rw [ho] at hh; exact (l_defer (cl := cl) ho hh).opF (by rw [ho]; rfl)
  | call x =>
    rw [ho] at hh
    have hh : b_call (mapCall f x) cl E F h c = true := hh
    cases hcal : x.callee with
    | value g =>
      refine (l_call hcl ho hcal hh).opF ?_
      rw [ho]
      obtain ⟨callee, args, argTypes⟩ := x
      simp only at hcal
      subst hcal
      rfl
    | invoke r m =>
      exfalso
      have : (mapCall f x).callee = .invoke (f r) m := by unfold mapCall; simp only [hcal]
      unfold b_call at hh
      rw [this] at hh
      cases hh
    | builtin b =>
      have e : (mapCall f x).callee = .builtin b := by unfold mapCall; simp only [hcal]
      unfold b_call at hh
      rw [e] at hh
      have hh : (rdL E F (x.args.map f).toList fun l => builtinA b x.argTypes.toList l h c) = true := hh
      have hl : ∀ b', x.callee = .builtin b' → isLoud (.call x) = (match b' with | .len | .max | .min => false | _ => true) := by
        intro b' hb'
        obtain ⟨callee, args, argTypes⟩ := x
        simp only at hb'
        subst hb'
        rfl
      cases b with
      | append => exact (l_append ho hcal hh).opF (by rw [ho, hl _ hcal])
      | copy => exact (l_copy ho hcal hh).opF (by rw [ho, hl _ hcal])
      | clear => exact (l_clear ho hcal hh).opF (by rw [ho, hl _ hcal])
      | len => exact (q_len ho hcal hh).opF (by rw [ho, hl _ hcal]) (by rw [ho]; rfl)
      | max => exact (q_max ho hcal hh).opF (by rw [ho, hl _ hcal]) (by rw [ho]; rfl)
      | min => exact (q_min ho hcal hh).opF (by rw [ho, hl _ hcal]) (by rw [ho]; rfl)
      | _ =>
        obtain ⟨vs, _, g⟩ := rdL_spec hh
        cases g
  | _ => rw [ho] at hh; cases hh
end Go.Proofs.YtkdjhegkcfmkoaaGreat.AM
namespace Go.Proofs.YtkdjhegkcfmkoaaGreat.AM
open Go.AM
set_option maxRecDepth 100000
theorem andB_spec {a b : Bool} (h : andB a b = true) : a = true ∧ b = true := by
  cases a with
  | false => cases h
  | true => exact ⟨rfl, h⟩
theorem numD_inj {a b : D8} (h : (numD a).beq (numD b) = true) : a = b := by
  have h := (beq_iff _ _).1 h
  cases a <;> cases b <;> first | rfl | (exact absurd h (by decide))
theorem eqNm_spec {x y : Nm} (h : eqNm x y = true) : x = y := by
  obtain ⟨a, b, c, d, e⟩ := x
  obtain ⟨a', b', c', d', e'⟩ := y
  obtain ⟨h1, h⟩ := andB_spec h
  obtain ⟨h2, h⟩ := andB_spec h
  obtain ⟨h3, h⟩ := andB_spec h
  obtain ⟨h4, h5⟩ := andB_spec h
  rw [numD_inj h1, numD_inj h2, numD_inj h3, numD_inj h4, numD_inj h5]
theorem eqOpt_spec {a b : Option Nat} (h : eqOpt a b = true) : a = b := by
  cases a <;> cases b <;> first | rfl | cases h | (rw [(beq_iff _ _).1 h])
theorem eqAt_spec {a b : At} (h : eqAt a b = true) : a = b := by
  cases a <;> cases b <;> first | rfl | (cases h; done) | skip
  · rw [(beq_iff _ _).1 h]
  · obtain ⟨h1, h2⟩ := andB_spec h
    rw [(beq_iff _ _).1 h1]
    rw [leqL_eq] at h2
    rw [beq_iff_eq.1 h2]
  · obtain ⟨h1, h⟩ := andB_spec h
    obtain ⟨h2, h⟩ := andB_spec h
    obtain ⟨h3, h⟩ := andB_spec h
    obtain ⟨h4, h5⟩ := andB_spec h
    rw [eqNm_spec h1, (beq_iff _ _).1 h2, (beq_iff _ _).1 h3, eqOpt_spec h4, (beq_iff _ _).1 h5]
theorem eqTg_spec {a b : Tg} (h : eqTg a b = true) : a = b := by
  cases a <;> cases b <;> first | rfl | (cases h; done) | skip
  · rw [(beq_iff _ _).1 h]
  · obtain ⟨h1, h2⟩ := andB_spec h
    rw [(beq_iff _ _).1 h1, (beq_iff _ _).1 h2]
theorem beqB_spec {a b : Bool} (h : beqB a b = true) : a = b := by cases a <;> cases b <;> first | rfl | cases h
theorem beqK_spec {a b : IntKind} (h : beqK a b = true) : a = b := by cases a <;> cases b <;> first | rfl | cases h
theorem eqI_spec {a b : Int} (h : eqI a b = true) : a = b := by
  cases a <;> cases b <;> first | cases h; done | (rw [(beq_iff _ _).1 h])
theorem onRow_spec {x : AV} {k : Tg → List AV → Bool} (h : onRow x k = true) : ∃ g l, x = .row g l ∧ k g l = true := by
  cases x with
  | row g l => exact ⟨g, l, rfl, h⟩
  | _ => cases h
noncomputable def eqLm (l : List AV) : List AV → Bool := AV.rec_1 (motive_1 := fun _ => AV → Bool) (motive_2 := fun _ => List AV → Bool) (fun a y => AV.onAt y fun b => eqAt a b) (fun g _ ih y => onRow y fun g' l' => andB (eqTg g g') (ih l'))
  (fun a y => AV.onBool y fun b => beqB a b) (fun b o y => AV.onPtr y fun b' o' => andB (eqNm b b') (o.beq o')) (fun k n y => AV.onInt y fun k' n' => andB (beqK k k') (eqI n n'))
  (fun m => List.rec true (fun _ _ _ => false) m) (fun _ _ ia il m => List.rec false (fun b t _ => andB (ia b) (il t)) m) l
mutual
theorem eqAV_spec : ∀ (x y : AV), eqAV x y = true → x = y
  | .at a, y, h => by
    obtain ⟨b, rfl, g⟩ := onAt_spec (show AV.onAt y (fun b => eqAt a b) = true from h)
    rw [eqAt_spec g]
  | .bool a, y, h => by
    obtain ⟨b, rfl, g⟩ := onBool_spec (show AV.onBool y (fun b => beqB a b) = true from h)
    rw [beqB_spec g]
  | .ptr b o, y, h => by
    obtain ⟨b', o', rfl, g⟩ := onPtr_spec (show AV.onPtr y (fun b' o' => andB (eqNm b b') (o.beq o')) = true from h)
    obtain ⟨g1, g2⟩ := andB_spec g
    rw [eqNm_spec g1, (beq_iff _ _).1 g2]
  | .int k n, y, h => by
    obtain ⟨k', n', rfl, g⟩ := onInt_spec (show AV.onInt y (fun k' n' => andB (beqK k k') (eqI n n')) = true from h)
    obtain ⟨g1, g2⟩ := andB_spec g
    rw [beqK_spec g1, eqI_spec g2]
  | .row g l, y, h => by
    obtain ⟨g', l', rfl, k⟩ := onRow_spec (show onRow y (fun g' l' => andB (eqTg g g') (eqLm l l')) = true from h)
    obtain ⟨g1, g2⟩ := andB_spec k
    rw [eqTg_spec g1, eqLm_spec l l' g2]
theorem eqLm_spec : ∀ (l m : List AV), eqLm l m = true → l = m
  | [], m, h => by
    cases m with
    | nil => rfl
    | cons b t => cases h
  | a :: l, m, h => by
    cases m with
    | nil => cases h
    | cons b t =>
      obtain ⟨g1, g2⟩ := andB_spec (show andB (eqAV a b) (eqLm l t) = true from h)
      rw [eqAV_spec a b g1, eqLm_spec l t g2]
end
theorem eqLV_spec : ∀ (l m : List AV), eqLV l m = true → l = m
  | [], m, h => by
    cases m with
    | nil => rfl
    | cons b t => cases h
  | a :: l, m, h => by
    cases m with
    | nil => cases h
    | cons b t =>
      obtain ⟨g1, g2⟩ := andB_spec (show andB (eqAV a b) (eqLV l t) = true from h)
      rw [eqAV_spec a b g1, eqLV_spec l t g2]
theorem eqOct_spec {t u : Oct (List AV)} (h : eqOct t u = true) : t = u := by
  obtain ⟨c0, c1, c2, c3, c4, c5, c6, c7⟩ := t
  obtain ⟨d0, d1, d2, d3, d4, d5, d6, d7⟩ := u
  obtain ⟨h0, h⟩ := andB_spec h
  obtain ⟨h1, h⟩ := andB_spec h
  obtain ⟨h2, h⟩ := andB_spec h
  obtain ⟨h3, h⟩ := andB_spec h
  obtain ⟨h4, h⟩ := andB_spec h
  obtain ⟨h5, h⟩ := andB_spec h
  obtain ⟨h6, h7⟩ := andB_spec h
  rw [eqLV_spec _ _ h0, eqLV_spec _ _ h1, eqLV_spec _ _ h2, eqLV_spec _ _ h3, eqLV_spec _ _ h4, eqLV_spec _ _ h5, eqLV_spec _ _ h6, eqLV_spec _ _ h7]
theorem eqBl_spec {a b : Blk} (h : eqBl a b = true) : a = b ∧ a ≠ .no := by
  obtain ⟨n, r, t, rfl, g1⟩ := onMk_spec h
  obtain ⟨n', r', t', rfl, g2⟩ := onMk_spec g1
  obtain ⟨h1, g3⟩ := andB_spec g2
  obtain ⟨h2, h3⟩ := andB_spec g3
  refine ⟨?_, by intro e; cases e⟩
  rw [(beq_iff _ _).1 h1, (beq_iff _ _).1 h2]
  cases t <;> cases t' <;> first | (cases h3; done) | skip
  · rw [eqLV_spec _ _ h3]
  · rw [eqOct_spec h3]
end Go.Proofs.YtkdjhegkcfmkoaaGreat.AM
namespace Go.Proofs.YtkdjhegkcfmkoaaGreat.AM
open Go.AM
set_option maxRecDepth 100000
/-- a guard that holds; one that does not -/
def Want (g : Option (Operand × Bool)) (E : List AV) (F : Fr) : Prop := g = none ∨ ∃ x b, g = some (x, b) ∧ rdA E F x = some (.bool b)
def Unw (g : Option (Operand × Bool)) (E : List AV) (F : Fr) : Prop := ∃ x b v, g = some (x, b) ∧ rdA E F x = some v ∧ (v = .bool (!b) ∨ ∃ l, v = .tup l)
theorem gdA_spec {g : Option (Operand × Bool)} {E : List AV} {F : Fr} {y n : Bool} (h : gdA g E F y n = true) : (Want g E F ∧ y = true) ∨ (Unw g E F ∧ n = true) := by
  cases g with
  | none => exact Or.inl ⟨Or.inl rfl, h⟩
  | some q =>
    obtain ⟨x, b⟩ := q
    obtain ⟨v, hv, h1⟩ := rd_spec (show rd E F x (fun v => onGd v (fun c => Bool.rec n y (beqB b c)) n) = true from h)
    cases v with
    | bool c =>
      have h2 : (Bool.rec n y (beqB b c) : Bool) = true := h1
      clear h1
      cases hb : beqB b c with
      | true =>
        rw [hb] at h2
        have := beqB_spec hb
        subst this
        exact Or.inl ⟨Or.inr ⟨x, b, rfl, hv⟩, h2⟩
      | false =>
        rw [hb] at h2
        refine Or.inr ⟨⟨x, b, _, rfl, hv, Or.inl ?_⟩, h2⟩
        cases b <;> cases c <;> first | rfl | cases hb
    | row g l => cases g with
      | tup => exact Or.inr ⟨⟨x, b, _, rfl, hv, Or.inr ⟨l, rfl⟩⟩, h1⟩
      | _ => cases h1
    | _ => cases h1
variable {cl : Cl} {M : Nat} {ops : List Oper} {bf : List Nat} {F : Fr}
theorem enc_isC (M : Nat) (ops : List Oper) (past : List Nat) (sh : Nat) (x : Operand) (h : isC (enc M ops past sh x) = true) : ∃ v, x = .const v := by
  cases x with
  | const v => exact ⟨v, rfl⟩
  | tmp t =>
    cases hs : seenAt ops t past with
    | some q =>
      have : enc M ops past sh (.tmp t) = .tmp (2 * (q + sh) + 1) := by simp [enc, hs]
      rw [this] at h; cases h
    | none =>
      cases ht : M.testBit t with
      | true =>
        have : enc M ops past sh (.tmp t) = .tmp (2 * t) := by simp [enc, hs, ht]
        rw [this] at h; cases h
      | false =>
        have : enc M ops past sh (.tmp t) = .global 0 := by simp [enc, hs, ht]
        rw [this] at h; cases h
  | global g => cases h
  | func f => cases h
/-- what an operation says that was run -/
def ItF (M : Nat) (ops : List Oper) (past : List Nat) (o : Oper) (E : List AV) (F : Fr) (h : H) (v : AV) (h' : H) : Prop :=
  (Want (guardOf M ops past 0 o) E F ∧ OpF (enc M ops past 0) E F o h h' v) ∨ (Unw (guardOf M ops past 0 o) E F ∧ v = .tup [] ∧ h' = h)
/-- what an operation says that was looked at again -/
structure CkF (M : Nat) (ops : List Oper) (r : List Nat) (n : Nat) (o : Oper) (E : List AV) (F : Fr) (h : H) : Prop where
  read : isLoud o.op = false → isRead o.op = true → ∃ u, E[n]? = some u ∧ ((Want (guardOf M ops r (n + 1) o) E F ∧ ReadOk (enc M ops r (n + 1)) E F o h u) ∨ Unw (guardOf M ops r (n + 1) o) E F)
  birth : isRead o.op = false → isBirth o.op = true → o.guard = none ∧ ∃ u b B, E[n]? = some u ∧ Names u b ∧ h.at b = B ∧ B ≠ .no ∧ BirthOk (enc M ops r (n + 1)) E F o b B u
theorem birth_not_read {o : Op} (h : isBirth o = true) : isRead o = false := by
  cases o <;> first | rfl | cases h
theorem runIts_append (l1 l2 : List It) (E : List AV) (h : H) (k : KE) : runIts cl F (l1 ++ l2) E h k = runIts cl F l1 E h (fun E h => runIts cl F l2 E h k) := by
  induction l1 generalizing E h with
  | nil => rfl
  | cons it l ih =>
    show runIt cl it E F h (fun E h => runIts cl F (l ++ l2) E h k) = runIt cl it E F h (fun E h => runIts cl F l E h (fun E h => runIts cl F l2 E h k))
    congr 1
    funext E h
    exact ih E h
theorem ckI_spec (hcl : ClOk cl) {r : List Nat} {n : Nat} {o : Oper} {E : List AV} {h : H} {k : KE} (hh : runIts cl F (ckI M ops r n o) E h k = true) : (isLoud o.op = false → k E h = true) ∧ (isLoud o.op = true → ∃ h', k E h' = true) ∧ CkF M ops r n o E F h := by
  unfold ckI at hh
  cases hr : isRead o.op with
  | true =>
    rw [hr] at hh
    have hnb : isBirth o.op = false := by
      cases hb : isBirth o.op with
      | false => rfl
      | true => rw [birth_not_read hb] at hr; cases hr
    obtain ⟨u, hu, g⟩ := lnthK_spec (show lnthK E n (fun u => gdA (guardOf M ops r (n + 1) o) E F (evOp (mapO (enc M ops r (n + 1)) o.op) cl E F h fun v h => Bool.rec false (k E h) (eqAV v u)) (k E h)) = true from hh)
    rcases gdA_spec g with ⟨hw, g1⟩ | ⟨hw, g1⟩
    · obtain ⟨v, h', g2, g3⟩ := evOp_ok hcl (enc_isC M ops r (n + 1)) g1
      obtain ⟨e1, g4⟩ := boolRec_t g2
      have e1 := eqAV_spec _ _ e1
      subst e1
      cases g3 with
      | quiet h1 h2 h3 => rw [hr] at h3; cases h3
      | read h1 h2 h3 h4 h5 => subst h4; exact ⟨fun _ => g4, fun hl => (by rw [h1] at hl; cases hl), ⟨fun _ _ => ⟨v, hu, Or.inl ⟨hw, h5⟩⟩, fun h => by rw [hr] at h; cases h⟩⟩
      | birth B h1 h2 => rw [hnb] at h2; cases h2
      | loud h1 h2 => exact ⟨fun hl => (by rw [h1] at hl; cases hl), fun _ => ⟨h', g4⟩, ⟨fun hl => (by rw [h1] at hl; cases hl), fun h => by rw [hr] at h; cases h⟩⟩
    · exact ⟨fun _ => g1, fun _ => ⟨h, g1⟩, ⟨fun _ _ => ⟨u, hu, Or.inr hw⟩, fun h => by rw [hr] at h; cases h⟩⟩
  | false =>
    simp only [hr, Bool.false_eq_true, if_false] at hh
    cases hb : isBirth o.op with
    | false =>
      simp only [hb, Bool.false_eq_true, if_false] at hh
      have hh : k E h = true := hh
      exact ⟨fun _ => hh, fun _ => ⟨h, hh⟩, ⟨fun _ h => (by rw [hr] at h; cases h), fun _ h => (by rw [hb] at h; cases h)⟩⟩
    | true =>
      simp only [hb, if_true] at hh
      cases ho : o.op with
      | alloc t =>
        simp only [ho] at hh
        cases hg : o.guard with
        | some q => rw [hg] at hh; cases hh
        | none =>
          rw [hg] at hh
          obtain ⟨u, hu, g⟩ := lnthK_spec (show lnthK E n (fun u => AV.onPtr u fun b p => Bool.rec false (getB h b fun B => allocBlk t fun B' => Bool.rec false (k E h) (eqBl B' B)) (p.beq 0)) = true from hh)
          obtain ⟨b, p, rfl, g1⟩ := onPtr_spec g
          obtain ⟨e1, g2⟩ := boolRec_t g1
          have e1 := (beq_iff _ _).1 e1
          subst e1
          rw [getB_eq] at g2
          obtain ⟨B, h1, h2, h3⟩ := birth_alloc g2
          obtain ⟨e2, g3⟩ := boolRec_t h2
          obtain ⟨e3, _⟩ := eqBl_spec e2
          exact ⟨fun _ => g3, fun _ => ⟨h, g3⟩, ⟨fun _ h => (by rw [hr] at h; cases h), fun _ _ => ⟨hg, _, b, B, hu, Or.inl rfl, e3.symm, h1, h3 _ E F o ho b⟩⟩⟩
      | buildSlice t m ps =>
        simp only [ho] at hh
        cases hg : o.guard with
        | some q => rw [hg] at hh; cases hh
        | none =>
          rw [hg] at hh
          obtain ⟨u, hu, g⟩ := lnthK_spec (show lnthK E n (fun u => AV.onSl u (fun b _ _ _ _ => getB h b fun B => bsBlk t m (ps.map fun p => (p.1, enc M ops r (n + 1) p.2)).toList E F fun e B' => Bool.rec false (Bool.rec false (k E h) (eqBl B' B)) (eqAV u (.at (.sl b 0 m (some m) e)))) false false) = true from hh)
          rcases onSl_spec g with ⟨b, p, m', c', e', rfl, g1⟩ | ⟨_, g1⟩ | ⟨_, g1⟩
          · rw [getB_eq] at g1
            obtain ⟨e, B, h1, h2, h3⟩ := birth_bs (f := enc M ops r (n + 1)) g1
            obtain ⟨e1, g2⟩ := boolRec_t h2
            have e1 := eqAV_spec _ _ e1
            obtain ⟨e2, g3⟩ := boolRec_t g2
            obtain ⟨e3, _⟩ := eqBl_spec e2
            exact ⟨fun _ => g3, fun _ => ⟨h, g3⟩, ⟨fun _ h => (by rw [hr] at h; cases h), fun _ _ => ⟨hg, _, b, B, hu, Or.inr ⟨_, _, _, e1⟩, e3.symm, h1, by rw [e1]; exact h3 o ho b⟩⟩⟩
          · cases g1
          · cases g1
      | _ => simp only [ho] at hh; first | cases hh | (rw [ho] at hb; cases hb)
end Go.Proofs.YtkdjhegkcfmkoaaGreat.AM
namespace Go.Proofs.YtkdjhegkcfmkoaaGreat.AM
open Go.AM
set_option maxRecDepth 100000
variable {cl : Cl} {M : Nat} {ops : List Oper} {bf : List Nat} {F : Fr}
/-- operations that stand in no order to the loud one j were looked at again -/
def Cks (M : Nat) (ops : List Oper) (bf : List Nat) (j : Nat) (past : List Nat) (n : Nat) (E : List AV) (F : Fr) (h : H) : Prop :=
  ∀ (q i : Nat) o, past[q]? = some i → ops[i]? = some o → isLoud o.op = false → i ≠ j → (bfA bf j).testBit i = false → (bfA bf i).testBit j = false → CkF M ops (past.drop (q + 1)) (n + q) o E F h
/-- no loud operation stands unordered -/
def Ord (ops : List Oper) (bf : List Nat) (j : Nat) (past : List Nat) : Prop := ∀ i ∈ past, LoudAt ops i → i = j ∨ (bfA bf j).testBit i = true ∨ (bfA bf i).testBit j = true
theorem ck_spec (hcl : ClOk cl) {j : Nat} : ∀ (past : List Nat) (n : Nat) (E : List AV) (h : H) (k : KE), Ord ops bf j past → (∀ i ∈ past, ∃ o, ops[i]? = some o) → runIts cl F (ckOf M ops bf j past n) E h k = true → k E h = true ∧ Cks M ops bf j past n E F h := by
  intro past
  induction past with
  | nil => intro n E h k _ _ hh; exact ⟨hh, fun q i o hq => by simp at hq⟩
  | cons i r ih =>
    intro n E h k hord hops hh
    obtain ⟨o, ho⟩ := hops i (by simp)
    have hord' : Ord ops bf j r := fun x hx => hord x (by simp [hx])
    have hops' : ∀ i ∈ r, ∃ o, ops[i]? = some o := fun x hx => hops x (by simp [hx])
    unfold ckOf at hh
    simp only [ho] at hh
    by_cases hc : (i == j || (bf.getD j 0).testBit i || (bf.getD i 0).testBit j) = true
    · rw [if_pos hc] at hh
      obtain ⟨h1, h2⟩ := ih (n + 1) E h k hord' hops' hh
      refine ⟨h1, fun q i' o' hq ho' hl hij hb1 hb2 => ?_⟩
      cases q with
      | zero =>
        simp at hq
        subst hq
        rw [Bool.or_eq_true, Bool.or_eq_true] at hc
        rcases hc with (hc | hc) | hc
        · exact absurd (by simpa using hc) hij
        · exact absurd hc (by rw [show (bf.getD j 0).testBit i = (bfA bf j).testBit i from rfl, hb1]; decide)
        · exact absurd hc (by rw [show (bf.getD i 0).testBit j = (bfA bf i).testBit j from rfl, hb2]; decide)
      | succ q =>
        have := h2 q i' o' (by simpa using hq) ho' hl hij hb1 hb2
        rw [show n + (q + 1) = n + 1 + q by omega]
        simpa using this
    · rw [if_neg hc, runIts_append] at hh
      have hnl : isLoud o.op = false := by
        cases hl : isLoud o.op with
        | false => rfl
        | true =>
          exfalso
          apply hc
          rw [Bool.or_eq_true, Bool.or_eq_true]
          rcases hord i (by simp) ⟨o, ho, hl⟩ with h1 | h1 | h1
          · exact Or.inl (Or.inl (by simpa using h1))
          · exact Or.inl (Or.inr h1)
          · exact Or.inr h1
      obtain ⟨g1, _, g2⟩ := ckI_spec hcl hh
      obtain ⟨h1, h2⟩ := ih (n + 1) E h k hord' hops' (g1 hnl)
      refine ⟨h1, fun q i' o' hq ho' hl hij hb1 hb2 => ?_⟩
      cases q with
      | zero =>
        simp at hq
        subst hq
        rw [ho] at ho'
        injection ho' with ho'
        subst ho'
        simpa using g2
      | succ q =>
        have := h2 q i' o' (by simpa using hq) ho' hl hij hb1 hb2
        rw [show n + (q + 1) = n + 1 + q by omega]
        simpa using this
/-- the values so far, the last one first; the operations so far -/
noncomputable def EsF (V : Nat → AV) (E : List AV) : Nat → List AV
  | 0 => E
  | p + 1 => V p :: EsF V E p
def pastF (r past : List Nat) (p : Nat) : List Nat := (r.take p).reverse ++ past
open Classical in
/-- the last loud one so far -/
noncomputable def prevF (ops : List Oper) (r : List Nat) (prev : Option Nat) : Nat → Option Nat
  | 0 => prev
  | p + 1 => match r[p]? with
    | some i => if LoudAt ops i then some i else prevF ops r prev p
    | none => prevF ops r prev p
def consF {α : Type} (x : α) (V : Nat → α) : Nat → α
  | 0 => x
  | p + 1 => V p
theorem EsF_cons (v : AV) (V : Nat → AV) (E : List AV) (p : Nat) : EsF (consF v V) E (p + 1) = EsF V (v :: E) p := by
  induction p with
  | zero => rfl
  | succ p ih => show V p :: EsF (consF v V) E (p + 1) = V p :: EsF V (v :: E) p; rw [ih]
theorem pastF_cons (i : Nat) (r past : List Nat) (p : Nat) : pastF (i :: r) past (p + 1) = pastF r (i :: past) p := by
  unfold pastF; simp
open Classical in
theorem prevF_cons (ops : List Oper) (i : Nat) (r : List Nat) (prev : Option Nat) (p : Nat) : prevF ops (i :: r) prev (p + 1) = prevF ops r (if LoudAt ops i then some i else prev) p := by
  induction p with
  | zero => rfl
  | succ p ih =>
    show (match (i :: r)[p + 1]? with | some i' => if LoudAt ops i' then some i' else prevF ops (i :: r) prev (p + 1) | none => prevF ops (i :: r) prev (p + 1)) = (match r[p]? with | some i' => if LoudAt ops i' then some i' else prevF ops r (if LoudAt ops i then some i else prev) p | none => prevF ops r (if LoudAt ops i then some i else prev) p)
    rw [ih]
    rfl
/-- the checks at a place -/
def CksP (M : Nat) (ops : List Oper) (bf : List Nat) (prev : Option Nat) (past : List Nat) (E : List AV) (F : Fr) (h : H) : Prop := ∀ j, prev = some j → Cks M ops bf j past 0 E F h
theorem ckPrev_spec (hcl : ClOk cl) {prev : Option Nat} {past : List Nat} {E : List AV} {h : H} {k : KE} (hord : ∀ j, prev = some j → Ord ops bf j past) (hops : ∀ i ∈ past, ∃ o, ops[i]? = some o) (hh : runIts cl F (ckPrev M ops bf prev past) E h k = true) :
    k E h = true ∧ CksP M ops bf prev past E F h := by
  cases prev with
  | none => exact ⟨hh, fun j hj => by cases hj⟩
  | some j =>
    obtain ⟨h1, h2⟩ := ck_spec hcl past 0 E h k (hord j rfl) hops hh
    exact ⟨h1, fun j' hj => by injection hj with hj; subst hj; exact h2⟩
open Classical in
theorem runs_spec (hcl : ClOk cl) : ∀ (r past : List Nat) (prev : Option Nat) (E : List AV) (h : H) (k : KE), (∀ i ∈ r, ∃ o, ops[i]? = some o) → (∀ i ∈ past, ∃ o, ops[i]? = some o) →
    (∀ p, p ≤ r.length → ∀ j, prevF ops r prev p = some j → Ord ops bf j (pastF r past p)) → runIts cl F (itemsOf M ops bf r past prev) E h k = true →
    ∃ (V : Nat → AV) (Hs : Nat → H), Hs 0 = h ∧ k (EsF V E r.length) (Hs r.length) = true ∧
      (∀ (p i : Nat) o, r[p]? = some i → ops[i]? = some o → ItF M ops (pastF r past p) o (EsF V E p) F (Hs p) (V p) (Hs (p + 1))) ∧
      (∀ s, s ≤ r.length → (s = r.length ∨ ∃ i, r[s]? = some i ∧ LoudAt ops i) → CksP M ops bf (prevF ops r prev s) (pastF r past s) (EsF V E s) F (Hs s)) := by
  intro r
  induction r with
  | nil =>
    intro past prev E h k _ hops hord hh
    obtain ⟨h1, h2⟩ := ckPrev_spec hcl (fun j hj => by have := hord 0 (Nat.le_refl _) j hj; simpa [pastF] using this) hops hh
    refine ⟨fun _ => .any, fun _ => h, rfl, h1, fun p i o hp => by simp at hp, fun s hs _ => ?_⟩
    obtain rfl : s = 0 := by simpa using hs
    simpa [pastF, EsF, prevF] using h2
  | cons i r ih =>
    intro past prev E h k hr hops hord hh
    obtain ⟨o, ho⟩ := hr i (by simp)
    have main : ∀ (h : H), runIts cl F (.op (mapO (enc M ops past 0) o.op) (guardOf M ops past 0 o) :: itemsOf M ops bf r (i :: past) (if LoudAt ops i then some i else prev)) E h k = true →
        ∃ (V : Nat → AV) (Hs : Nat → H), Hs 0 = h ∧ k (EsF V E (r.length + 1)) (Hs (r.length + 1)) = true ∧
          (∀ (p i' : Nat) o, (i :: r)[p]? = some i' → ops[i']? = some o → ItF M ops (pastF (i :: r) past p) o (EsF V E p) F (Hs p) (V p) (Hs (p + 1))) ∧
          (∀ s, s ≤ r.length → (s = r.length ∨ ∃ i, r[s]? = some i ∧ LoudAt ops i) → CksP M ops bf (prevF ops (i :: r) prev (s + 1)) (pastF (i :: r) past (s + 1)) (EsF V E (s + 1)) F (Hs (s + 1))) := by
      intro h hh
      have hh : gdA (guardOf M ops past 0 o) E F (evOp (mapO (enc M ops past 0) o.op) cl E F h fun v h => runIts cl F (itemsOf M ops bf r (i :: past) (if LoudAt ops i then some i else prev)) (v :: E) h k)
        (runIts cl F (itemsOf M ops bf r (i :: past) (if LoudAt ops i then some i else prev)) (.tup [] :: E) h k) = true := hh
      have step : ∃ v h1, ItF M ops past o E F h v h1 ∧ runIts cl F (itemsOf M ops bf r (i :: past) (if LoudAt ops i then some i else prev)) (v :: E) h1 k = true := by
        rcases gdA_spec hh with ⟨hw, g⟩ | ⟨hw, g⟩
        · obtain ⟨v, h1, g1, g2⟩ := evOp_ok hcl (enc_isC M ops past 0) g
          exact ⟨v, h1, Or.inl ⟨hw, g2⟩, g1⟩
        · exact ⟨_, h, Or.inr ⟨hw, rfl, rfl⟩, g⟩
      obtain ⟨v, h1, hit, g⟩ := step
      obtain ⟨V, Hs, q1, q2, q3, q4⟩ := ih (i :: past) _ (v :: E) h1 k (fun x hx => hr x (by simp [hx])) (fun x hx => by
        rcases List.mem_cons.1 hx with rfl | hx
        · exact ⟨o, ho⟩
        · exact hops x hx) (fun p hp j hj => by
        rw [← prevF_cons] at hj
        have := hord (p + 1) (by simpa using hp) j hj
        rwa [pastF_cons] at this) g
      refine ⟨consF v V, consF h Hs, rfl, ?_, ?_, ?_⟩
      · rw [EsF_cons]; exact q2
      · intro p i' o' hp ho'
        cases p with
        | zero =>
          simp at hp
          subst hp
          rw [ho] at ho'
          injection ho' with ho'
          subst ho'
          show ItF M ops (pastF (i :: r) past 0) o E F h v (Hs 0)
          rw [q1]
          simpa [pastF] using hit
        | succ p =>
          rw [pastF_cons, EsF_cons]
          exact q3 p i' o' (by simpa using hp) ho'
      · intro s hs hs2
        rw [prevF_cons, pastF_cons, EsF_cons]
        exact q4 s hs hs2
    have fin : ∀ (V : Nat → AV) (Hs : Nat → H), Hs 0 = h → (LoudAt ops i → CksP M ops bf prev past E F h) → (∀ s, s ≤ r.length → (s = r.length ∨ ∃ i, r[s]? = some i ∧ LoudAt ops i) → CksP M ops bf (prevF ops (i :: r) prev (s + 1)) (pastF (i :: r) past (s + 1)) (EsF V E (s + 1)) F (Hs (s + 1))) →
        ∀ s, s ≤ (i :: r).length → (s = (i :: r).length ∨ ∃ i', (i :: r)[s]? = some i' ∧ LoudAt ops i') → CksP M ops bf (prevF ops (i :: r) prev s) (pastF (i :: r) past s) (EsF V E s) F (Hs s) := by
      intro V Hs h0 hck hq s hs hs2
      cases s with
      | zero =>
        rcases hs2 with h1 | ⟨i', h1, h2⟩
        · simp at h1
        · simp at h1
          subst h1
          rw [h0]
          simpa [pastF, prevF, EsF] using hck h2
      | succ s => exact hq s (by simpa using hs) (by simpa using hs2)
    unfold itemsOf at hh
    simp only [ho] at hh
    cases hl : isLoud o.op with
    | true =>
      have hL : LoudAt ops i := ⟨o, ho, hl⟩
      rw [if_pos hl, runIts_append] at hh
      obtain ⟨g1, g2⟩ := ckPrev_spec hcl (fun j hj => by have := hord 0 (Nat.zero_le _) j hj; simpa [pastF] using this) hops hh
      obtain ⟨V, Hs, q1, q2, q3, q4⟩ := main h (by rw [if_pos hL]; exact g1)
      exact ⟨V, Hs, q1, q2, q3, fin V Hs q1 (fun _ => g2) q4⟩
    | false =>
      have hL : ¬ LoudAt ops i := by
        rintro ⟨o', ho', hl'⟩
        rw [ho] at ho'
        injection ho' with ho'
        subst ho'
        rw [hl] at hl'; cases hl'
      rw [if_neg (by rw [hl]; decide)] at hh
      obtain ⟨V, Hs, q1, q2, q3, q4⟩ := main h (by rw [if_neg hL]; exact hh)
      exact ⟨V, Hs, q1, q2, q3, fin V Hs q1 (fun h => absurd h hL) q4⟩
end Go.Proofs.YtkdjhegkcfmkoaaGreat.AM
namespace Go.Proofs.YtkdjhegkcfmkoaaGreat.AM
open Go.AM
set_option maxRecDepth 100000
theorem EsF_get (V : Nat → AV) : ∀ (p k : Nat), k < p → (EsF V [] p)[k]? = some (V (p - 1 - k))
  | 0, k, h => by omega
  | p + 1, k, h => by
    show (V p :: EsF V [] p)[k]? = _
    cases k with
    | zero => rfl
    | succ k =>
      rw [List.getElem?_cons_succ, EsF_get V p k (by omega)]
      congr 2; omega
theorem pastF_succ {od : List Nat} {s i : Nat} (h : od[s]? = some i) : pastF od [] (s + 1) = i :: pastF od [] s := by
  unfold pastF
  rw [List.take_add_one, h]
  simp
theorem pastF_get {od : List Nat} : ∀ (p k : Nat), k < p → p ≤ od.length → (pastF od [] p)[k]? = od[p - 1 - k]?
  | 0, k, h, _ => by omega
  | p + 1, k, h, hp => by
    obtain ⟨i, hi⟩ : ∃ i, od[p]? = some i := ⟨_, List.getElem?_eq_getElem (by omega)⟩
    rw [pastF_succ hi]
    cases k with
    | zero => rw [List.getElem?_cons_zero, ← hi]; rfl
    | succ k =>
      rw [List.getElem?_cons_succ, pastF_get p k (by omega) (by omega)]
      congr 1; omega
theorem pastF_drop {od : List Nat} {p : Nat} : ∀ (d : Nat), p + d ≤ od.length → (pastF od [] (p + d)).drop d = pastF od [] p
  | 0, _ => rfl
  | d + 1, h => by
    obtain ⟨i, hi⟩ : ∃ i, od[p + d]? = some i := ⟨_, List.getElem?_eq_getElem (by omega)⟩
    rw [show p + (d + 1) = p + d + 1 by omega, pastF_succ hi, List.drop_succ_cons]
    exact pastF_drop d (by omega)
theorem pastF_mem {od : List Nat} {p i : Nat} (hp : p ≤ od.length) : i ∈ pastF od [] p ↔ ∃ q, q < p ∧ od[q]? = some i := by
  constructor
  · intro h
    obtain ⟨k, hk⟩ := List.mem_iff_getElem?.1 h
    have hlt : k < p := by
      have := (List.getElem?_eq_some_iff.1 hk).1
      unfold pastF at this
      simp at this
      omega
    rw [pastF_get p k hlt hp] at hk
    exact ⟨_, by omega, hk⟩
  · rintro ⟨q, hq, hi⟩
    have := pastF_get p (p - 1 - q) (by omega) hp
    rw [show p - 1 - (p - 1 - q) = q by omega, hi] at this
    exact List.mem_of_getElem? this
open Classical in
theorem prevF_some {ops : List Oper} {r : List Nat} {j : Nat} : ∀ (p : Nat), prevF ops r none p = some j → ∃ pj, pj < p ∧ r[pj]? = some j ∧ LoudAt ops j ∧ ∀ q i, pj < q → q < p → r[q]? = some i → ¬ LoudAt ops i
  | 0, h => by cases h
  | p + 1, h => by
    have h : (match r[p]? with | some i => if LoudAt ops i then some i else prevF ops r none p | none => prevF ops r none p) = some j := h
    cases hr : r[p]? with
    | none =>
      rw [hr] at h
      obtain ⟨pj, h1, h2, h3, h4⟩ := prevF_some p h
      exact ⟨pj, by omega, h2, h3, fun q i hq1 hq2 hi => by
        by_cases e : q = p
        · subst e; rw [hr] at hi; cases hi
        · exact h4 q i hq1 (by omega) hi⟩
    | some i =>
      rw [hr] at h
      by_cases hl : LoudAt ops i
      · simp only [if_pos hl] at h
        injection h with h
        subst h
        exact ⟨p, by omega, hr, hl, fun q i hq1 hq2 => by omega⟩
      · simp only [if_neg hl] at h
        obtain ⟨pj, h1, h2, h3, h4⟩ := prevF_some p h
        exact ⟨pj, by omega, h2, h3, fun q i' hq1 hq2 hi => by
          by_cases e : q = p
          · subst e; rw [hr] at hi; injection hi with hi; subst hi; exact hl
          · exact h4 q i' hq1 (by omega) hi⟩
open Classical in
theorem prevF_none {ops : List Oper} {r : List Nat} : ∀ (p : Nat), prevF ops r none p = none → ∀ q i, q < p → r[q]? = some i → ¬ LoudAt ops i
  | 0, _, q, i, hq, _ => by omega
  | p + 1, h, q, i, hq, hi => by
    have h : (match r[p]? with | some i => if LoudAt ops i then some i else prevF ops r none p | none => prevF ops r none p) = none := h
    by_cases e : q = p
    · subst e
      rw [hi] at h
      intro hl
      simp only [if_pos hl] at h
      cases h
    · refine prevF_none p ?_ q i (by omega) hi
      cases hr : r[p]? with
      | none => rw [hr] at h; exact h
      | some i' =>
        rw [hr] at h
        by_cases hl : LoudAt ops i'
        · simp only [if_pos hl] at h; cases h
        · simp only [if_neg hl] at h; exact h
/-- the order is a good one -/
structure Good (ops : List Oper) (bf od : List Nat) : Prop where
  ok : ∀ (p i : Nat), od[p]? = some i → ∃ o, ops[i]? = some o ∧ OkOp ops bf (pastF od [] p) i o
  all : ∀ i, i < ops.length → i ∈ od
theorem good_of_valid {ops : List Oper} {bf od : List Nat} (h : valid ops bf od [] 0 0 = true) : Good ops bf od := by
  obtain ⟨h1, h2⟩ := valid_spec od [] h
  refine ⟨h1, fun i hi => ?_⟩
  have : (mk (od.reverse ++ [])).testBit i = true := by rw [h2, Nat.testBit_two_pow_sub_one]; simpa using hi
  rw [mk_bit] at this
  simpa using this
namespace Good
variable {ops : List Oper} {bf od : List Nat}
theorem inj (g : Good ops bf od) {p q i : Nat} (hp : od[p]? = some i) (hq : od[q]? = some i) : p = q := by
  have hpl := (List.getElem?_eq_some_iff.1 hp).1
  have hql := (List.getElem?_eq_some_iff.1 hq).1
  rcases Nat.lt_trichotomy p q with h | h | h
  · obtain ⟨o, _, h2⟩ := g.ok q i hq
    exact absurd ((pastF_mem (by omega)).2 ⟨p, h, hp⟩) h2.new
  · exact h
  · obtain ⟨o, _, h2⟩ := g.ok p i hp
    exact absurd ((pastF_mem (by omega)).2 ⟨q, h, hq⟩) h2.new
theorem bits (g : Good ops bf od) {p i j : Nat} (hp : od[p]? = some i) (hb : (bfA bf i).testBit j = true) : ∃ q, q < p ∧ od[q]? = some j := by
  have hpl := (List.getElem?_eq_some_iff.1 hp).1
  obtain ⟨o, _, h2⟩ := g.ok p i hp
  exact (pastF_mem (by omega)).1 (h2.bits j hb)
theorem loud (g : Good ops bf od) {p q i j : Nat} (hp : od[p]? = some i) (hq : od[q]? = some j) (hlt : q < p) (hl : LoudAt ops j) : (bfA bf i).testBit j = true := by
  have hpl := (List.getElem?_eq_some_iff.1 hp).1
  obtain ⟨o, _, h2⟩ := g.ok p i hp
  exact h2.loud j ((pastF_mem (by omega)).2 ⟨q, hlt, hq⟩) hl
theorem ord (g : Good ops bf od) {p j : Nat} (hp : p ≤ od.length) (hj : prevF ops od none p = some j) : Ord ops bf j (pastF od [] p) := by
  intro i hi hl
  obtain ⟨pj, h1, h2, h3, h4⟩ := prevF_some p hj
  obtain ⟨q, hq, hqi⟩ := (pastF_mem hp).1 hi
  rcases Nat.lt_trichotomy q pj with h | h | h
  · exact Or.inr (Or.inl (g.loud h2 hqi h hl))
  · subst h; rw [hqi] at h2; injection h2 with h2; exact Or.inl h2
  · exact absurd hl (h4 q i h hq hqi)
end Good
/-- what a run of a region's operations in our order says, by places -/
structure RunF (M : Nat) (ops : List Oper) (bf od : List Nat) (F : Fr) (V : Nat → AV) (Hs : Nat → H) : Prop where
  it : ∀ (p i : Nat) o, od[p]? = some i → ops[i]? = some o → ItF M ops (pastF od [] p) o (EsF V [] p) F (Hs p) (V p) (Hs (p + 1))
  ck : ∀ s, s ≤ od.length → (s = od.length ∨ ∃ i, od[s]? = some i ∧ LoudAt ops i) → CksP M ops bf (prevF ops od none s) (pastF od [] s) (EsF V [] s) F (Hs s)
theorem runF_of {cl : Cl} (hcl : ClOk cl) {M : Nat} {ops : List Oper} {bf od : List Nat} {F : Fr} (g : Good ops bf od) {h : H} {k : KE} (hh : runIts cl F (itemsOf M ops bf od [] none) [] h k = true) :
    ∃ V Hs, Hs 0 = h ∧ k (EsF V [] od.length) (Hs od.length) = true ∧ RunF M ops bf od F V Hs := by
  obtain ⟨V, Hs, h1, h2, h3, h4⟩ := runs_spec hcl od [] none [] h k (fun i hi => by
    obtain ⟨p, hp⟩ := List.mem_iff_getElem?.1 hi
    obtain ⟨o, ho, _⟩ := g.ok p i hp
    exact ⟨o, ho⟩) (fun i hi => by cases hi) (fun p hp j hj => g.ord hp hj) hh
  exact ⟨V, Hs, h1, h2, h3, h4⟩
end Go.Proofs.YtkdjhegkcfmkoaaGreat.AM
