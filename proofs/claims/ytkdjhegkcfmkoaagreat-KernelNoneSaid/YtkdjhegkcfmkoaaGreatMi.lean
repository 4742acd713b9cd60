/- The abstract machine over this program: a region at any order, the pieces. -/
import Derived.Test.YtkdjhegkcfmkoaaGreatMh
namespace Go.Proofs.YtkdjhegkcfmkoaaGreat.AM
open Go.AM
set_option maxRecDepth 100000
/-- frames stand so -/
def FrR (M : Nat) (φ : Phi) (F : Fr) (a : Act) : Prop := ∀ t, M.testBit t = true → RV φ (F.at (pathOf t)) (a.eval (.tmp t))
/-- the values of what was done -/
structure ValI (ops : List Oper) (od : List Nat) (V : Nat → AV) (a0 : Act) (L : Nat → Bool) (φ : Phi) (a : Act) : Prop where
  vals : ∀ (p i : Nat) o t, od[p]? = some i → L i = true → ops[i]? = some o → o.dst = some t → RV φ (V p) (a.eval (.tmp t))
  rest : ∀ t, (∀ (p i : Nat) o, od[p]? = some i → L i = true → ops[i]? = some o → o.dst ≠ some t) → a.eval (.tmp t) = a0.eval (.tmp t)
  size : a.tmps.size = a0.tmps.size
  defs : ∀ d ∈ a.defers, d ∈ a0.defers ∨ IdleD d
def Closed (bf : List Nat) (L : Nat → Bool) : Prop := ∀ i j, L i = true → (bfA bf i).testBit j = true → L j = true
variable {M : Nat} {ops : List Oper} {bf od : List Nat} {F : Fr} {V : Nat → AV} {Hs : Nat → H} {a0 : Act} {L : Nat → Bool} {φ φ0 : Phi} {a : Act}
theorem locD_odd (k : Nat) : locD (2 * k + 1) = .e k := by unfold locD; rw [if_pos (by omega)]; congr 1; omega
theorem locD_even (k : Nat) : locD (2 * k) = .f (pathOf k) := by unfold locD; rw [if_neg (by omega)]; congr 2; omega
theorem rd_ok (g : Good ops bf od) (hfr : FrR M φ0 F a0) (hle : φ0.le φ) (hv : ValI ops od V a0 L φ a) (hcl : Closed bf L) {p i : Nat} {o : Oper} (hp : od[p]? = some i) (ho : ops[i]? = some o) (hL : L i = false)
    (hb : ∀ j, (bfA bf i).testBit j = true → L j = true) {E : List AV} {sh : Nat} (hE : ∀ k, k < p → E[k + sh]? = some (V (p - 1 - k))) (x : Operand) (hx : ∀ t, x = .tmp t → t ∈ looksL ops o) :
    Rd (enc M ops (pastF od [] p) sh) E F φ a.eval x := by
  have hpl := (List.getElem?_eq_some_iff.1 hp).1
  intro v hv'
  cases x with
  | const c =>
    have : some (absV c) = some v := hv'
    injection this with this
    subst this
    exact absV_ok φ c
  | global g => cases hv'
  | func f =>
    have : some (AV.row (.fn f 0) []) = some v := hv'
    injection this with this
    subst this
    exact RV_fn.2 ⟨#[], #[], rfl, rfl, by rw [RL_nil]; rfl⟩
  | tmp t =>
    obtain ⟨o', ho', hok⟩ := g.ok p i hp
    rw [ho] at ho'
    injection ho' with ho'
    subst ho'
    cases hs : seenAt ops t (pastF od [] p) with
    | some q =>
      have he : enc M ops (pastF od [] p) sh (.tmp t) = .tmp (2 * (q + sh) + 1) := by simp [enc, hs]
      rw [he] at hv'
      have hv' : (match locD (2 * (q + sh) + 1) with | .e i => E[i]? | .f p => some (F.at p)) = some v := hv'
      rw [locD_odd] at hv'
      obtain ⟨j, pj, h1, h2, h3⟩ := seenAt_some hs
      have hq : q < p := by
        have := (List.getElem?_eq_some_iff.1 h1).1
        unfold pastF at this
        simp at this
        omega
      obtain ⟨j', h4, h5⟩ := hok.look t (hx t rfl) q hs
      rw [h1] at h4
      injection h4 with h4
      subst h4
      have hv'' : E[q + sh]? = some v := hv'
      rw [hE q hq] at hv''
      injection hv'' with hv''
      subst hv''
      rw [pastF_get p q hq (by omega)] at h1
      exact hv.vals _ j pj t h1 (hb j h5) h2 h3
    | none =>
      cases ht : M.testBit t with
      | false =>
        have he : enc M ops (pastF od [] p) sh (.tmp t) = .global 0 := by simp [enc, hs, ht]
        rw [he] at hv'; cases hv'
      | true =>
        have he : enc M ops (pastF od [] p) sh (.tmp t) = .tmp (2 * t) := by simp [enc, hs, ht]
        rw [he] at hv'
        have hv' : (match locD (2 * t) with | .e i => E[i]? | .f p => some (F.at p)) = some v := hv'
        rw [locD_even] at hv'
        have hv'' : some (F.at (pathOf t)) = some v := hv'
        injection hv'' with hv''
        subst hv''
        rw [hv.rest t (fun p' i' o' hp' hl' ho' hd => ?_)]
        · exact RV.mono hle _ _ (hfr t ht)
        · have hpl' := (List.getElem?_eq_some_iff.1 hp').1
          rcases Nat.lt_trichotomy p' p with h | h | h
          · exact seenAt_none hs i' ((pastF_mem (by omega)).2 ⟨p', h, hp'⟩) o' ho' hd
          · subst h
            rw [hp] at hp'
            injection hp' with hp'
            subst hp'
            rw [hL] at hl'; cases hl'
          · obtain ⟨o2, ho2, hok2⟩ := g.ok p' i' hp'
            rw [ho'] at ho2
            injection ho2 with ho2
            subst ho2
            have := (hok2.dst t hd i ((pastF_mem (by omega)).2 ⟨p, h, hp⟩) o ho).2 (hx t rfl)
            have := hcl i' i hl' this
            rw [hL] at this; cases this
theorem looks_op {o : Oper} {x : Operand} (hx : x ∈ o.op.operands) : ∀ t, x = .tmp t → t ∈ looksL ops o := by
  intro t ht
  subst ht
  unfold looksL
  exact List.mem_append_left _ (List.mem_filterMap.2 ⟨.tmp t, by simpa using hx, rfl⟩)
theorem looks_guard {o p : Oper} {j t : Nat} {b : Bool} (hg : o.guard = some (j, b)) (hp : ops[j]? = some p) (ht : p.dst = some t) : t ∈ looksL ops o := by
  unfold looksL
  refine List.mem_append_right _ ?_
  simp [hg, hp, ht]
/-- a guard, ours and the model's -/
theorem wanted_ok {opsA : Array Oper} (hops : ops = opsA.toList) {o : Oper} {past : List Nat} {sh : Nat} {E : List AV} (hrd : ∀ x : Operand, (∀ t, x = .tmp t → t ∈ looksL ops o) → Rd (enc M ops past sh) E F φ a.eval x) :
    (Want (guardOf M ops past sh o) E F → Region.wanted o (yielded opsA a.tmps) = true) ∧ (Unw (guardOf M ops past sh o) E F → Region.wanted o (yielded opsA a.tmps) = false) := by
  have none1 : ∀ b, guardOf M ops past sh o = some (.global 0, b) → ¬ Want (guardOf M ops past sh o) E F ∧ ¬ Unw (guardOf M ops past sh o) E F := by
    intro b e
    rw [e]
    refine ⟨?_, ?_⟩
    · rintro (h | ⟨x, b', h, h1⟩)
      · cases h
      · injection h with h; injection h with h2 h3; subst h2; cases h1
    · rintro ⟨x, b', v, h, h1, _⟩
      injection h with h; injection h with h2 h3; subst h2; cases h1
  cases hg : o.guard with
  | none =>
    have e : guardOf M ops past sh o = none := by unfold guardOf; rw [hg]
    refine ⟨fun _ => by unfold Region.wanted; rw [hg], ?_⟩
    rw [e]
    rintro ⟨x, b, v, h, _⟩
    cases h
  | some q =>
    obtain ⟨j, b⟩ := q
    cases hj : ops[j]? with
    | none =>
      obtain ⟨n1, n2⟩ := none1 b (by unfold guardOf; simp [hg, hj])
      exact ⟨fun h => absurd h n1, fun h => absurd h n2⟩
    | some p =>
      cases ht : p.dst with
      | none =>
        obtain ⟨n1, n2⟩ := none1 b (by unfold guardOf; simp [hg, hj, ht])
        exact ⟨fun h => absurd h n1, fun h => absurd h n2⟩
      | some t =>
        have e : guardOf M ops past sh o = some (enc M ops past sh (.tmp t), b) := by unfold guardOf; simp only [hg, hj, ht]
        have hr := hrd (.tmp t) (fun t' e => by injection e with e; subst e; exact looks_guard hg hj ht)
        have hjA : opsA[j]? = some p := by rw [← Array.getElem?_toList, ← hops]; exact hj
        have hy : yielded opsA a.tmps j = (match a.tmps[t]? with | some (.bool b) => some b | _ => none) := by
          unfold yielded
          rw [hjA]
          simp only [Option.bind_some, ht]
          rcases a.tmps[t]? with _ | y
          · rfl
          · cases y <;> rfl
        have hev : a.eval (.tmp t) = a.tmps.getD t undef := rfl
        rw [e]
        unfold Region.wanted
        rw [hg]
        refine ⟨?_, ?_⟩
        · rintro (h | ⟨x, b', h, h1⟩)
          · cases h
          · injection h with h; injection h with h2 h3
            subst h2; subst h3
            have := RV_bool.1 (hr _ h1)
            rw [hev, Array.getD_eq_getD_getElem?] at this
            cases hx : a.tmps[t]? with
            | none => rw [hx] at this; cases this
            | some y =>
              rw [hx] at this
              have this : y = .bool b := this
              subst this
              simp [hy, hx]
        · rintro ⟨x, b', v, h, h1, h4⟩
          injection h with h; injection h with h2 h3
          subst h2; subst h3
          have h5 := hr _ h1
          rw [hev, Array.getD_eq_getD_getElem?] at h5
          cases hx : a.tmps[t]? with
          | none => simp [hy, hx]
          | some y =>
            rw [hx] at h5
            have h5 : RV φ v y := h5
            rcases h4 with rfl | ⟨l, rfl⟩
            · have h5 := RV_bool.1 h5
              subst h5
              cases b <;> simp [hy, hx]
            · obtain ⟨cs, rfl, _⟩ := RV_tup.1 h5
              simp [hy, hx]
end Go.Proofs.YtkdjhegkcfmkoaaGreat.AM
namespace Go.Proofs.YtkdjhegkcfmkoaaGreat.AM
open Go.AM
set_option maxRecDepth 100000
variable {M : Nat} {ops : List Oper} {bf od : List Nat} {F : Fr} {V : Nat → AV} {Hs : Nat → H} {a0 : Act} {L : Nat → Bool} {φ φ' φ0 : Phi} {a : Act}
def addL (L : Nat → Bool) (i : Nat) : Nat → Bool := fun j => decide (j = i) || L j
theorem addL_self (L : Nat → Bool) (i : Nat) : addL L i i = true := by simp [addL]
theorem addL_true {L : Nat → Bool} {i j : Nat} (h : addL L i j = true) : j = i ∨ L j = true := by simpa [addL] using h
theorem addL_of {L : Nat → Bool} {i j : Nat} (h : L j = true) : addL L i j = true := by simp [addL, h]
theorem addL_false {L : Nat → Bool} {i j : Nat} (h : addL L i j = false) : j ≠ i ∧ L j = false := by simpa [addL] using h
theorem Good.dst_ne (g : Good ops bf od) {p q i j : Nat} {o o' : Oper} (hp : od[p]? = some i) (hq : od[q]? = some j) (ho : ops[i]? = some o) (ho' : ops[j]? = some o') (hne : i ≠ j) {t : Nat} (ht : o.dst = some t) : o'.dst ≠ some t := by
  have hpl := (List.getElem?_eq_some_iff.1 hp).1
  have hql := (List.getElem?_eq_some_iff.1 hq).1
  rcases Nat.lt_trichotomy p q with h | h | h
  · obtain ⟨o2, ho2, hok⟩ := g.ok q j hq
    rw [ho'] at ho2; injection ho2 with ho2; subst ho2
    intro ht'
    exact (hok.dst t ht' i ((pastF_mem (by omega)).2 ⟨p, h, hp⟩) o ho).1 ht
  · subst h; rw [hp] at hq; injection hq with hq; exact absurd hq hne
  · obtain ⟨o2, ho2, hok⟩ := g.ok p i hp
    rw [ho] at ho2; injection ho2 with ho2; subst ho2
    exact (hok.dst t ht j ((pastF_mem (by omega)).2 ⟨q, h, hq⟩) o' ho').1
theorem eval_put_same (a : Act) (t : Nat) (v : Value) (h : t < a.tmps.size) : (a.put (some t) v).eval (.tmp t) = v := by
  show (a.tmps.setIfInBounds t v).getD t undef = v
  simp [h]
theorem ValI.put (g : Good ops bf od) (hv : ValI ops od V a0 L φ a) {p i : Nat} {o : Oper} (hp : od[p]? = some i) (ho : ops[i]? = some o) (hle : φ.le φ') {v : Value} (hr : RV φ' (V p) v) (hdst : ∀ t, o.dst = some t → t < a0.tmps.size)
    {ds : List Deferred} (hds : ∀ d ∈ ds, IdleD d) : ValI ops od V a0 (addL L i) φ' (({ a with defers := ds ++ a.defers } : Act).put o.dst v) where
  vals := fun p' i' o' t hp' hl ho' ht => by
    by_cases e : i' = i
    · subst e
      have := g.inj hp hp'
      subst this
      rw [ho] at ho'; injection ho' with ho'; subst ho'
      rw [ht, eval_put_same _ t v (by show t < a.tmps.size; rw [hv.size]; exact hdst t ht)]
      exact hr
    · have hl' := (addL_true hl).resolve_left e
      rw [Act.eval_put (fun d hd hx => by injection hx with hx; subst hx; exact g.dst_ne hp' hp ho' ho e ht hd)]
      exact RV.mono hle _ _ (hv.vals p' i' o' t hp' hl' ho' ht)
  rest := fun t ht => by
    rw [Act.eval_put (fun d hd hx => by injection hx with hx; subst hx; exact ht p i o hp (addL_self L i) ho hd)]
    exact hv.rest t (fun p' i' o' hp' hl ho' => ht p' i' o' hp' (addL_of hl) ho')
  size := by
    have : ∀ (a : Act) (d : Option Tmp) (v : Value), (a.put d v).tmps.size = a.tmps.size := by
      intro a d v
      cases d with
      | none => rfl
      | some d => simp [Act.put]
    rw [this]; exact hv.size
  defs := fun d hd => by
    have : ∀ (a : Act) (d : Option Tmp) (v : Value), (a.put d v).defers = a.defers := by
      intro a d v; cases d <;> rfl
    rw [this] at hd
    rcases List.mem_append.1 hd with hd | hd
    · exact Or.inr (hds d hd)
    · exact hv.defs d hd
theorem Closed.add (hc : Closed bf L) {i : Nat} (hb : ∀ j, (bfA bf i).testBit j = true → L j = true) : Closed bf (addL L i) := by
  intro x j hx hj
  rcases addL_true hx with rfl | hx
  · exact addL_of (hb j hj)
  · exact addL_of (hc x j hx hj)
/-! ### memory, from place to place -/
def CleanH (h : H) : Prop := ∀ b : Nm, h.nx.num ≤ b.num → h.at b = .no
theorem stepH (R : RunF M ops bf od F V Hs) {q i : Nat} {o : Oper} (hq : od[q]? = some i) (ho : ops[i]? = some o) (hl : isLoud o.op = false) :
    Hs (q + 1) = Hs q ∨ ∃ B, B ≠ .no ∧ (Hs (q + 1)).nx.num = (Hs q).nx.num + 1 ∧ ∀ x, (Hs (q + 1)).at x = if (Hs q).nx = x then B else (Hs q).at x := by
  rcases R.it q i o hq ho with ⟨_, h⟩ | ⟨_, _, h⟩
  · cases h with
    | quiet _ _ _ h4 => exact Or.inl h4
    | read _ _ _ h4 => exact Or.inl h4
    | birth B _ _ h3 h4 h5 => exact Or.inr ⟨B, h3, h4, h5⟩
    | loud h1 => rw [hl] at h1; cases h1
  · exact Or.inl h
theorem nxStep (g : Good ops bf od) (R : RunF M ops bf od F V Hs) {q : Nat} (hq : q < od.length) : (Hs q).nx.num ≤ (Hs (q + 1)).nx.num := by
  obtain ⟨i, hi⟩ : ∃ i, od[q]? = some i := ⟨_, List.getElem?_eq_getElem hq⟩
  obtain ⟨o, ho, _⟩ := g.ok q i hi
  rcases R.it q i o hi ho with ⟨_, h⟩ | ⟨_, _, h⟩
  · cases h with
    | quiet _ _ _ h4 => rw [h4]; exact Nat.le_refl _
    | read _ _ _ h4 => rw [h4]; exact Nat.le_refl _
    | birth B _ _ _ h4 => rw [h4]; exact Nat.le_succ _
    | loud _ h2 => exact h2.1
  · rw [h]; exact Nat.le_refl _
theorem nxMono (g : Good ops bf od) (R : RunF M ops bf od F V Hs) {p : Nat} : ∀ (d : Nat), p + d ≤ od.length → (Hs p).nx.num ≤ (Hs (p + d)).nx.num
  | 0, _ => Nat.le_refl _
  | d + 1, h => Nat.le_trans (nxMono g R d (by omega)) (nxStep g R (by omega))
/-- no loud operation between -/
def NoLoud (ops : List Oper) (od : List Nat) (p q : Nat) : Prop := ∀ (x i : Nat), p ≤ x → x < q → od[x]? = some i → ¬ LoudAt ops i
theorem growH (g : Good ops bf od) (R : RunF M ops bf od F V Hs) {p : Nat} (hc : CleanH (Hs p)) : ∀ (d : Nat), p + d ≤ od.length → NoLoud ops od p (p + d) →
    CleanH (Hs (p + d)) ∧ (∀ b : Nm, b.num < (Hs p).nx.num → (Hs (p + d)).at b = (Hs p).at b) ∧ (Hs p).le (Hs (p + d))
  | 0, _, _ => ⟨hc, fun _ _ => rfl, H.le_refl _⟩
  | d + 1, h, hn => by
    obtain ⟨h1, h2, h3⟩ := growH g R hc d (by omega) (fun x i hx hx2 hi => hn x i hx (by omega) hi)
    obtain ⟨i, hi⟩ : ∃ i, od[p + d]? = some i := ⟨_, List.getElem?_eq_getElem (by omega)⟩
    obtain ⟨o, ho, _⟩ := g.ok _ i hi
    have hl : isLoud o.op = false := by
      cases hb : isLoud o.op with
      | false => rfl
      | true => exact absurd ⟨o, ho, hb⟩ (hn (p + d) i (by omega) (by omega) hi)
    have hm := nxMono g R (p := p) d (by omega)
    rw [show p + (d + 1) = p + d + 1 by omega]
    rcases stepH R hi ho hl with e | ⟨B, e1, e2, e3⟩
    · rw [e]; exact ⟨h1, h2, h3⟩
    · refine ⟨fun b hb => ?_, fun b hb => ?_, fun b hb => ?_⟩
      · rw [e3, if_neg (by intro e; subst e; omega)]; exact h1 b (by omega)
      · rw [e3, if_neg (by intro e; subst e; omega)]; exact h2 b hb
      · rw [e3]
        by_cases e : (Hs (p + d)).nx = b
        · exact absurd (hc b (by rw [← e]; exact hm)) hb
        · rw [if_neg e]; exact h3 b hb
theorem next_stage (ops : List Oper) (od : List Nat) : ∀ (d s : Nat), s + d = od.length → ∃ s', s ≤ s' ∧ s' ≤ od.length ∧ NoLoud ops od s s' ∧ (s' = od.length ∨ ∃ i, od[s']? = some i ∧ LoudAt ops i)
  | 0, s, h => ⟨s, Nat.le_refl _, by omega, fun x i h1 h2 => by omega, Or.inl (by omega)⟩
  | d + 1, s, h => by
    obtain ⟨i, hi⟩ : ∃ i, od[s]? = some i := ⟨_, List.getElem?_eq_getElem (by omega)⟩
    by_cases hl : LoudAt ops i
    · exact ⟨s, Nat.le_refl _, by omega, fun x i h1 h2 => by omega, Or.inr ⟨i, hi, hl⟩⟩
    · obtain ⟨s', h1, h2, h3, h4⟩ := next_stage ops od d (s + 1) (by omega)
      refine ⟨s', by omega, h2, fun x i' hx hx2 hi' => ?_, h4⟩
      by_cases e : x = s
      · subst e; rw [hi] at hi'; injection hi' with hi'; subst hi'; exact hl
      · exact h3 x i' (by omega) hx2 hi'
end Go.Proofs.YtkdjhegkcfmkoaaGreat.AM
namespace Go.Proofs.YtkdjhegkcfmkoaaGreat.AM
open Go.AM
set_option maxRecDepth 100000
/-- memory, while a region runs -/
structure MemI (ops : List Oper) (bf od : List Nat) (Hs : Nat → H) (φ0 : Phi) (w0 : World) (L : Nat → Bool) (s : Nat) (φ : Phi) (w : World) : Prop where
  hs : s ≤ od.length
  before : ∀ (p i : Nat), p < s → od[p]? = some i → LoudAt ops i → L i = true
  behind : ∀ (p i : Nat), s ≤ p → od[p]? = some i → L i = false
  stage : s = od.length ∨ ∃ i, od[s]? = some i ∧ LoudAt ops i
  closed : Closed bf L
  mem : Mem φ (Hs s) w
  kept : Kept φ0 w0 φ w
  old : Old (Hs 0).nx.num φ0 φ
  clean : ∀ p, p ≤ s → CleanH (Hs p)
  names : ∀ (p i : Nat) o, od[p]? = some i → ops[i]? = some o → L i = false → isLoud o.op = false → (Hs p).nx.num < (Hs (p + 1)).nx.num → φ (Hs p).nx = none
variable {M : Nat} {ops : List Oper} {bf od : List Nat} {F : Fr} {V : Nat → AV} {Hs : Nat → H} {a0 : Act} {L : Nat → Bool} {φ φ' φ0 : Phi} {a : Act} {w0 w w' : World} {s : Nat}
/-- what is not loud leaves the stage -/
theorem MemI.list (g : Good ops bf od) (hm : MemI ops bf od Hs φ0 w0 L s φ w) {p i : Nat} (hp : od[p]? = some i) (hps : p < s) (hb : ∀ j, (bfA bf i).testBit j = true → L j = true) : MemI ops bf od Hs φ0 w0 (addL L i) s φ w where
  hs := hm.hs
  before := fun q j hq hj hl => addL_of (hm.before q j hq hj hl)
  behind := fun q j hq hj => by
    have h1 := hm.behind q j hq hj
    have h2 : j ≠ i := by intro e; subst e; have := g.inj hp hj; omega
    simp [addL, h1, h2]
  stage := hm.stage
  closed := hm.closed.add hb
  mem := hm.mem
  kept := hm.kept
  old := hm.old
  clean := hm.clean
  names := fun q j o hq ho hl h1 h2 => hm.names q j o hq ho (addL_false hl).2 h1 h2
/-- a block was born -/
theorem MemI.birth (g : Good ops bf od) (R : RunF M ops bf od F V Hs) (hm : MemI ops bf od Hs φ0 w0 L s φ w) {p i : Nat} (hp : od[p]? = some i) (hps : p < s) (hb : ∀ j, (bfA bf i).testBit j = true → L j = true)
    (hnx : (Hs p).nx.num < (Hs (p + 1)).nx.num) (hk : Kept φ w φ' w') (hme : Mem φ' (Hs s) w') (ho : ∀ x, x ≠ (Hs p).nx → φ' x = φ x) (h0 : (Hs 0).nx.num ≤ (Hs p).nx.num) : MemI ops bf od Hs φ0 w0 (addL L i) s φ' w' where
  hs := hm.hs
  before := (hm.list g hp hps hb).before
  behind := (hm.list g hp hps hb).behind
  stage := hm.stage
  closed := hm.closed.add hb
  mem := hme
  kept := hm.kept.trans hk
  old := fun b hb => by rw [ho b (by intro e; subst e; omega), hm.old b hb]
  clean := hm.clean
  names := fun q j o hq ho' hl h1 h2 => by
    have hne : j ≠ i := (addL_false hl).1
    rw [ho]
    · exact hm.names q j o hq ho' (addL_false hl).2 h1 h2
    · intro e
      have hql := (List.getElem?_eq_some_iff.1 hq).1
      have hpl := (List.getElem?_eq_some_iff.1 hp).1
      rcases Nat.lt_trichotomy q p with h | h | h
      · have := nxMono g R (p := q + 1) (p - (q + 1)) (by omega)
        rw [show q + 1 + (p - (q + 1)) = p by omega] at this
        rw [e] at h2; omega
      · subst h; rw [hp] at hq; injection hq with hq; exact hne hq.symm
      · have := nxMono g R (p := p + 1) (q - (p + 1)) (by omega)
        rw [show p + 1 + (q - (p + 1)) = q by omega] at this
        rw [e] at this; omega
/-- a loud one was done -/
theorem MemI.loud (g : Good ops bf od) (R : RunF M ops bf od F V Hs) (hm : MemI ops bf od Hs φ0 w0 L s φ w) {i : Nat} (hp : od[s]? = some i) (hb : ∀ j, (bfA bf i).testBit j = true → L j = true)
    (hk : Kept φ w φ' w') (ho : Old (Hs s).nx.num φ φ') (hme : Mem φ' (Hs (s + 1)) w') : ∃ s', MemI ops bf od Hs φ0 w0 (addL L i) s' φ' w' := by
  have hsl := (List.getElem?_eq_some_iff.1 hp).1
  obtain ⟨s', h1, h2, h3, h4⟩ := next_stage ops od (od.length - (s + 1)) (s + 1) (by omega)
  have gr := fun d hd hn => growH g R (p := s + 1) hme.clean d hd hn
  have hall : ∀ d, s + 1 + d ≤ s' → CleanH (Hs (s + 1 + d)) ∧ (∀ b : Nm, b.num < (Hs (s + 1)).nx.num → (Hs (s + 1 + d)).at b = (Hs (s + 1)).at b) ∧ (Hs (s + 1)).le (Hs (s + 1 + d)) := fun d hd =>
    gr d (by omega) (fun x j hx hx2 hj => h3 x j hx (by omega) hj)
  have hs' : s + 1 + (s' - (s + 1)) = s' := by omega
  have hlast := hall (s' - (s + 1)) (by omega)
  rw [hs'] at hlast
  have hmono : ∀ q q', q ≤ q' → q' ≤ od.length → (Hs q).nx.num ≤ (Hs q').nx.num := fun q q' h1 h2 => by
    have := nxMono g R (p := q) (q' - q) (by omega)
    rwa [show q + (q' - q) = q' by omega] at this
  refine ⟨s', h2, fun q j hq hj hl => ?_, fun q j hq hj => ?_, h4, hm.closed.add hb, ?_, hm.kept.trans hk, ?_, fun q hq => ?_, fun q j o hq ho' hl h5 h6 => ?_⟩
  · rcases Nat.lt_trichotomy q s with h | h | h
    · exact addL_of (hm.before q j h hj hl)
    · subst h; rw [hp] at hj; injection hj with hj; subst hj; exact addL_self L i
    · exact absurd hl (h3 q j h hq hj)
  · have e1 := hm.behind q j (by omega) hj
    have e2 : j ≠ i := by intro e; subst e; have := g.inj hp hj; omega
    simp [addL, e1, e2]
  · exact hme.grow (hmono _ _ h1 h2) hlast.2.1 hlast.1
  · intro b hb'
    have := hmono 0 s (Nat.zero_le _) (by omega)
    rw [ho b (by omega), hm.old b hb']
  · by_cases hqs : q ≤ s
    · exact hm.clean q hqs
    · have := (hall (q - (s + 1)) (by omega)).1
      rwa [show s + 1 + (q - (s + 1)) = q by omega] at this
  · have hne : j ≠ i := (addL_false hl).1
    have hql := (List.getElem?_eq_some_iff.1 hq).1
    rcases Nat.lt_trichotomy q s with h | h | h
    · rw [ho (Hs q).nx (by have := hmono (q + 1) s (by omega) (by omega); omega)]
      exact hm.names q j o hq ho' (addL_false hl).2 h5 h6
    · subst h; rw [hp] at hq; injection hq with hq; exact absurd hq.symm hne
    · exact hme.fresh _ (hmono (s + 1) q (by omega) (by omega))
/-- what stood behind a loud one, unordered, was looked at again -/
theorem MemI.seen (g : Good ops bf od) (R : RunF M ops bf od F V Hs) (hm : MemI ops bf od Hs φ0 w0 L s φ w) {p i : Nat} {o : Oper} (hp : od[p]? = some i) (ho : ops[i]? = some o) (hps : p < s) (hL : L i = false) (hl : isLoud o.op = false) :
    (Hs p).le (Hs s) ∧ (Hs (p + 1)).le (Hs s) ∨ CkF M ops (pastF od [] p) (s - 1 - p) o (EsF V [] s) F (Hs s) := by
  have hsl := hm.hs
  have key : ∀ q0, q0 ≤ p → NoLoud ops od q0 s → (Hs p).le (Hs s) ∧ (Hs (p + 1)).le (Hs s) := fun q0 hq0 hn => by
    have h1 := (growH g R (hm.clean p (by omega)) (s - p) (by omega) (fun x j hx hx2 hj => hn x j (by omega) (by omega) hj)).2.2
    have h2 := (growH g R (hm.clean (p + 1) (by omega)) (s - (p + 1)) (by omega) (fun x j hx hx2 hj => hn x j (by omega) (by omega) hj)).2.2
    rw [show p + (s - p) = s by omega] at h1
    rw [show p + 1 + (s - (p + 1)) = s by omega] at h2
    exact ⟨h1, h2⟩
  cases hpv : prevF ops od none s with
  | none => exact Or.inl (key 0 (Nat.zero_le _) (fun x j _ hx hj => prevF_none s hpv x j hx hj))
  | some j =>
    obtain ⟨pj, h1, h2, h3, h4⟩ := prevF_some s hpv
    by_cases hpp : pj < p
    · exact Or.inl (key (pj + 1) (by omega) (fun x j hx hx2 hj => h4 x j (by omega) hx2 hj))
    · refine Or.inr ?_
      have hj := hm.before pj j h1 h2 h3
      have hij : i ≠ j := by
        intro e; subst e; rw [hL] at hj; cases hj
      have hb1 : (bfA bf j).testBit i = false := by
        cases hb : (bfA bf j).testBit i with
        | false => rfl
        | true => have := hm.closed j i hj hb; rw [hL] at this; cases this
      have hb2 : (bfA bf i).testBit j = false := by
        cases hb : (bfA bf i).testBit j with
        | false => rfl
        | true =>
          obtain ⟨q, hq, hqj⟩ := g.bits hp hb
          have := g.inj h2 hqj
          omega
      have hck := R.ck s hsl hm.stage j hpv
      have hidx : (pastF od [] s)[s - 1 - p]? = some i := by
        rw [pastF_get s (s - 1 - p) (by omega) hsl, show s - 1 - (s - 1 - p) = p by omega]; exact hp
      have := hck (s - 1 - p) i o hidx ho hl hij hb1 hb2
      have hd := pastF_drop (od := od) (p := p) (s - p) (by omega)
      rw [show p + (s - p) = s by omega] at hd
      rw [show s - 1 - p + 1 = s - p by omega, hd, Nat.zero_add] at this
      exact this
end Go.Proofs.YtkdjhegkcfmkoaaGreat.AM
namespace Go.Proofs.YtkdjhegkcfmkoaaGreat.AM
open Go.AM
set_option maxRecDepth 100000
variable {M : Nat} {ops : List Oper} {bf od : List Nat} {F : Fr} {V : Nat → AV} {Hs : Nat → H} {a0 : Act} {L : Nat → Bool} {φ φ' φ0 : Phi} {a : Act} {w0 w w' : World} {s : Nat}
theorem names_eq {r : AV} {b b' : Nm} (h : Names r b) (h' : Names r b') : b = b' := by
  rcases h with h | ⟨n, k, e, h⟩
  · rcases h' with h' | ⟨n', k', e', h'⟩
    · rw [h] at h'; injection h'
    · rw [h] at h'; cases h'
  · rcases h' with h' | ⟨n', k', e', h'⟩
    · rw [h] at h'; cases h'
    · rw [h] at h'; injection h' with h'; injection h'
theorem region_step {opsA : Array Oper} (hops : ops = opsA.toList) (g : Good ops bf od) (R : RunF M ops bf od F V Hs) (hfr : FrR M φ0 F a0) (hdst : ∀ (i : Nat) o t, ops[i]? = some o → o.dst = some t → t < a0.tmps.size)
    (hv : ValI ops od V a0 L φ a) (hm : MemI ops bf od Hs φ0 w0 L s φ w) {p i : Nat} (hp : od[p]? = some i) (hL : L i = false) (hb : ∀ j, (bfA bf i).testBit j = true → L j = true) {K : Act → World → Prop} {Q : Exit → Act → World → Prop}
    (hK : ∀ s' φ' a' w', ValI ops od V a0 (addL L i) φ' a' → MemI ops bf od Hs φ0 w0 (addL L i) s' φ' w' → K a' w') : wpOp Tryz.prog opsA Q i K a w := by
  have hpl := (List.getElem?_eq_some_iff.1 hp).1
  have hsl := hm.hs
  obtain ⟨o, ho, hok⟩ := g.ok p i hp
  have hoA : opsA[i]? = some o := by rw [← Array.getElem?_toList, ← hops]; exact ho
  have hrd : ∀ (E : List AV) (sh : Nat), (∀ k, k < p → E[k + sh]? = some (V (p - 1 - k))) → ∀ x : Operand, (∀ t, x = .tmp t → t ∈ looksL ops o) → Rd (enc M ops (pastF od [] p) sh) E F φ a.eval x :=
    fun E sh hE x hx => rd_ok g hfr hm.kept.le hv hm.closed hp ho hL hb hE x hx
  have hE0 : ∀ k, k < p → (EsF V [] p)[k + 0]? = some (V (p - 1 - k)) := fun k hk => EsF_get V p k hk
  have hrd0 := hrd (EsF V [] p) 0 hE0
  have hrdo : ∀ x ∈ o.op.operands, Rd (enc M ops (pastF od [] p) 0) (EsF V [] p) F φ a.eval x := fun x hx => hrd0 x (looks_op hx)
  obtain ⟨hw1, hw2⟩ := wanted_ok hops hrd0
  have hd := fun t (ht : o.dst = some t) => hdst i o t ho ht
  have unw : ∀ {E : List AV} {sh : Nat}, (Unw (guardOf M ops (pastF od [] p) sh o) E F → Region.wanted o (yielded opsA a.tmps) = false) → True := fun _ => trivial
  have hloc : p < s ∨ (p = s ∧ LoudAt ops i) := by
    by_cases hps : p < s
    · exact Or.inl hps
    · rcases hm.stage with e | ⟨i', hi', hl'⟩
      · omega
      · by_cases e : p = s
        · subst e; rw [hp] at hi'; injection hi' with hi'; subst hi'; exact Or.inr ⟨rfl, hl'⟩
        · have h1 := hb i' (g.loud hp hi' (by omega) hl')
          have h2 := hm.behind s i' (Nat.le_refl _) hi'
          rw [h2] at h1; cases h1
  have key : ∀ {v : Value} {φ' : Phi} {w' : World} {ds : List Deferred} {s' : Nat}, φ.le φ' → RV φ' (V p) v → (∀ d ∈ ds, IdleD d) → MemI ops bf od Hs φ0 w0 (addL L i) s' φ' w' → K (({ a with defers := ds ++ a.defers } : Act).put o.dst v) w' :=
    fun hle hr hds hmi => hK _ _ _ _ (hv.put g hp ho hle hr hd hds) hmi
  have key0 : ∀ {v : Value} {φ' : Phi} {w' : World} {s' : Nat}, φ.le φ' → RV φ' (V p) v → MemI ops bf od Hs φ0 w0 (addL L i) s' φ' w' → K (a.put o.dst v) w' :=
    fun hle hr hmi => key (ds := []) hle hr (by intro d hd; cases hd) hmi
  have hundef : V p = .tup [] → RV φ (V p) undef := fun e => by rw [e]; exact RV_tup.2 ⟨#[], rfl, by rw [RL_nil]⟩
  unfold wpOp
  simp only [hoA]
  rcases hloc with hps | ⟨rfl, hl⟩
  · have hnl : isLoud o.op = false := by
      cases hb' : isLoud o.op with
      | false => rfl
      | true => have := hm.before p i hps hp ⟨o, ho, hb'⟩; rw [hL] at this; cases this
    have hmi := hm.list g hp hps hb
    rcases R.it p i o hp ho with ⟨hwant, hop⟩ | ⟨hunw, hvp, hhp⟩
    · rw [if_pos (hw1 hwant)]
      refine Or.inl ?_
      have fin : (∃ r', (execOp a.eval o).run Tryz.prog w = .ok (.value r') w ∧ RV φ (V p) r') → o.wp Tryz.prog a w K Q := by
        rintro ⟨r', h1, h2⟩
        unfold Oper.wp
        rw [h1]
        exact key0 φ.le_refl h2 hmi
      cases hop with
      | quiet _ _ _ _ h5 => exact fin (h5 φ a.eval w hrdo)
      | read _ h2 h3 _ h5 =>
        rcases hm.seen g R hp ho hps hL hnl with ⟨hle, _⟩ | hck
        · exact fin (h5 (Hs s) hle φ a.eval w hm.mem hrdo)
        · obtain ⟨u, hu, hc⟩ := hck.read hnl h3
          rw [EsF_get V s (s - 1 - p) (by omega), show s - 1 - (s - 1 - p) = p by omega] at hu
          injection hu with hu
          subst hu
          have hE1 : ∀ k, k < p → (EsF V [] s)[k + (s - 1 - p + 1)]? = some (V (p - 1 - k)) := fun k hk => by
            rw [EsF_get V s _ (by omega)]; congr 2; omega
          have hrd1 := hrd (EsF V [] s) (s - 1 - p + 1) hE1
          rcases hc with ⟨_, hr⟩ | hun
          · exact fin (hr (Hs s) (H.le_refl _) φ a.eval w hm.mem (fun x hx => hrd1 x (looks_op hx)))
          · have := (wanted_ok hops hrd1).2 hun
            rw [hw1 hwant] at this; cases this
      | birth B _ h2 h3 h4 h5 h6 h7 =>
        have hnx : (Hs p).nx.num < (Hs (p + 1)).nx.num := by omega
        have hnone := hm.names p i o hp ho hL hnl hnx
        have hmono := fun q (hq : q ≤ s) (hq2 : p + 1 ≤ q) => by
          have := nxMono g R (p := p + 1) (q - (p + 1)) (by omega)
          rwa [show p + 1 + (q - (p + 1)) = q by omega] at this
        have hnum : (Hs p).nx.num < (Hs s).nx.num := by have := hmono s (Nat.le_refl _) hps; omega
        have h0 : (Hs 0).nx.num ≤ (Hs p).nx.num := by
          have := nxMono g R (p := 0) p (by omega)
          rwa [Nat.zero_add] at this
        have fin2 : (∃ r' w' φ', (execOp a.eval o).run Tryz.prog w = .ok (.value r') w' ∧ Kept φ w φ' w' ∧ Mem φ' (Hs s) w' ∧ RV φ' (V p) r' ∧ ∀ x, x ≠ (Hs p).nx → φ' x = φ x) → o.wp Tryz.prog a w K Q := by
          rintro ⟨r', w', φ', q1, q2, q3, q4, q5⟩
          unfold Oper.wp
          rw [q1]
          exact key0 q2.le q4 (hm.birth g R hp hps hb hnx q2 q3 q5 h0)
        rcases hm.seen g R hp ho hps hL hnl with ⟨_, hle⟩ | hck
        · have hat : (Hs (p + 1)).at (Hs p).nx = B := by rw [h5, if_pos rfl]
          have : (Hs s).at (Hs p).nx = B := by rw [hle _ (by rw [hat]; exact h3), hat]
          exact fin2 (h6 φ (Hs s) a.eval w hm.mem hnone hnum this hrdo)
        · obtain ⟨_, u, b, B', hu, hn, hat, _, hbo⟩ := hck.birth (birth_not_read h2) h2
          rw [EsF_get V s (s - 1 - p) (by omega), show s - 1 - (s - 1 - p) = p by omega] at hu
          injection hu with hu
          subst hu
          have hbb := names_eq hn h7
          subst hbb
          have hE1 : ∀ k, k < p → (EsF V [] s)[k + (s - 1 - p + 1)]? = some (V (p - 1 - k)) := fun k hk => by
            rw [EsF_get V s _ (by omega)]; congr 2; omega
          have hrd1 := hrd (EsF V [] s) (s - 1 - p + 1) hE1
          exact fin2 (hbo φ (Hs s) a.eval w hm.mem hnone hnum hat (fun x hx => hrd1 x (looks_op hx)))
      | loud h1 => rw [hnl] at h1; cases h1
    · rw [if_neg (by rw [hw2 hunw]; decide)]
      exact key0 φ.le_refl (hundef hvp) hmi
  · rcases R.it p i o hp ho with ⟨hwant, hop⟩ | ⟨hunw, hvp, hhp⟩
    · rw [if_pos (hw1 hwant)]
      refine Or.inl ?_
      obtain ⟨o', ho', hl'⟩ := hl
      rw [ho] at ho'; injection ho' with ho'; subst ho'
      cases hop with
      | quiet h1 => rw [hl'] at h1; cases h1
      | read h1 => rw [hl'] at h1; cases h1
      | birth B h1 => rw [hl'] at h1; cases h1
      | loud _ h2 =>
        refine h2.2 φ a w K Q hm.mem hrdo (fun φ' w' r' ds hds hk hold hme hr => ?_)
        obtain ⟨s', hmi⟩ := hm.loud g R hp hb hk hold hme
        exact key hk.le hr hds hmi
    · rw [if_neg (by rw [hw2 hunw]; decide)]
      obtain ⟨s', hmi⟩ := hm.loud g R hp hb (Kept.refl φ w) (Old.refl _ _) (by rw [hhp]; exact hm.mem)
      exact key0 φ.le_refl (hundef hvp) hmi
end Go.Proofs.YtkdjhegkcfmkoaaGreat.AM
namespace Go.Proofs.YtkdjhegkcfmkoaaGreat.AM
open Go.AM
set_option maxRecDepth 100000
variable {M : Nat} {opsA : Array Oper} {bf od : List Nat} {F : Fr} {V : Nat → AV} {Hs : Nat → H} {a0 : Act} {φ0 : Phi} {w0 : World} {Q : Exit → Act → World → Prop}
/-- how a region's check of what goes ahead stands to its edges -/
def BfOk (opsA : Array Oper) (bf : List Nat) : Prop := ∀ (i : Nat) o j, opsA[i]? = some o → (bfA bf i).testBit j = true → ∃ e ∈ o.after, Region.binds .any e = true ∧ (e.on = j ∨ (bfA bf e.on).testBit j = true)
def BfAll (opsA : Array Oper) (bf : List Nat) : Prop := ∀ (i : Nat) o, opsA[i]? = some o → ∀ e ∈ o.after, Region.binds .any e = true → (bfA bf i).testBit e.on = true
theorem first_un (od : List Nat) (L : Nat → Bool) : ∀ (p i : Nat), od[p]? = some i → L i = false → ∃ (q j : Nat), od[q]? = some j ∧ L j = false ∧ ∀ (x k : Nat), x < q → od[x]? = some k → L k = true := by
  intro p
  induction p using Nat.strongRecOn with
  | ind p ih =>
    intro i hi hL
    by_cases h : ∃ (x k : Nat), x < p ∧ od[x]? = some k ∧ L k = false
    · obtain ⟨x, k, h1, h2, h3⟩ := h
      exact ih x h1 k h2 h3
    · refine ⟨p, i, hi, hL, fun x k hx hk => ?_⟩
      cases hl : L k with
      | true => rfl
      | false => exact absurd ⟨x, k, hx, hk, hl⟩ h
theorem region_any (g : Good opsA.toList bf od) (R : RunF M opsA.toList bf od F V Hs) (hfr : FrR M φ0 F a0) (hdst : ∀ (i : Nat) o t, opsA.toList[i]? = some o → o.dst = some t → t < a0.tmps.size) (hbf : BfOk opsA bf) (hba : BfAll opsA bf)
    (hq : ∀ L s φ a w, (∀ i, i < opsA.size → L i = true) → ValI opsA.toList od V a0 L φ a → MemI opsA.toList bf od Hs φ0 w0 L s φ w → Q .normal a w) :
    ∀ (fuel : Nat) (listed : Array Bool) (L : Nat → Bool) (s : Nat) (φ : Phi) (a : Act) (w : World) (U : List Nat), listed.size = opsA.size → (∀ j, listed.getD j false = L j) → (∀ i, i < opsA.size → L i = false → i ∈ U) → U.length ≤ fuel →
      ValI opsA.toList od V a0 L φ a → MemI opsA.toList bf od Hs φ0 w0 L s φ w → wpAny Tryz.prog .any opsA Q fuel listed a w := by
  intro fuel
  induction fuel with
  | zero =>
    intro listed L s φ a w U hsz hl hU hlen hv hm
    have hall : ∀ i, i < opsA.size → L i = true := fun i hi => by
      cases h : L i with
      | true => rfl
      | false =>
        have := hU i hi h
        rw [List.length_eq_zero_iff.1 (Nat.le_zero.1 hlen)] at this
        cases this
    refine ⟨?_, hq L s φ a w hall hv hm⟩
    apply List.eq_nil_iff_forall_not_mem.2
    intro j hj
    obtain ⟨h1, o, ho, _⟩ := mem_ready.1 hj
    have hlt := (Array.getElem?_eq_some_iff.1 ho).1
    have h2 := hl j
    rw [hall j hlt] at h2
    simp [Array.getD_eq_getD_getElem?, hsz, hlt] at h1 h2
    rw [h1] at h2; cases h2
  | succ fuel ih =>
    intro listed L s φ a w U hsz hl hU hlen hv hm
    have hd : ∀ i, i < opsA.size → listed.getD i true = L i := fun i hi => by
      rw [← hl i]
      simp [Array.getD_eq_getD_getElem?, hsz, hi]
    refine ⟨fun hnil => ?_, fun i hi => ?_⟩
    · refine hq L s φ a w (fun i hi => ?_) hv hm
      cases hLi : L i with
      | true => rfl
      | false =>
        exfalso
        obtain ⟨p, hp⟩ := List.mem_iff_getElem?.1 (g.all i (by rw [Array.length_toList]; exact hi))
        obtain ⟨q, j, h1, h2, h3⟩ := first_un od L p i hp hLi
        obtain ⟨o, ho, _⟩ := g.ok q j h1
        rw [Array.getElem?_toList] at ho
        have hjl := (Array.getElem?_eq_some_iff.1 ho).1
        have : j ∈ Region.ready .any opsA listed := mem_ready.2 ⟨by rw [hd j hjl]; exact h2, o, ho, fun e he hbind => by
          obtain ⟨x, hx1, hx2⟩ := g.bits h1 (hba j o ho e he hbind)
          rw [hl]; exact h3 x e.on hx1 hx2⟩
        rw [hnil] at this; cases this
    · obtain ⟨h1, o, ho, hedge⟩ := mem_ready.1 hi
      have hlt := (Array.getElem?_eq_some_iff.1 ho).1
      have hLi : L i = false := by rw [← hd i hlt]; exact h1
      obtain ⟨p, hp⟩ := List.mem_iff_getElem?.1 (g.all i (by rw [Array.length_toList]; exact hlt))
      refine region_step rfl g R hfr hdst hv hm hp hLi (fun j hj => ?_) (fun s' φ' a' w' hv' hm' => ?_)
      · obtain ⟨e, he, hbind, hej⟩ := hbf i o j ho hj
        have hon : L e.on = true := by rw [← hl]; exact hedge e he hbind
        rcases hej with rfl | hej
        · exact hon
        · exact hm.closed e.on j hon hej
      · refine ih (listed.setIfInBounds i true) (addL L i) s' φ' a' w' (U.erase i) (by simp [hsz]) (fun j => ?_) (fun j hj hjl => ?_) ?_ hv' hm'
        · by_cases e : j = i
          · subst e
            simp [addL, Array.getD_eq_getD_getElem?, hsz, hlt]
          · rw [getD_set_ne false (Ne.symm e), hl]
            simp [addL, e]
        · obtain ⟨e1, e2⟩ := addL_false hjl
          exact (List.mem_erase_of_ne e1).2 (hU j hj e2)
        · have := List.length_erase_of_mem (hU i hlt hLi)
          omega
/-- in the order of the text -/
theorem region_seq (g : Good opsA.toList bf (List.range opsA.size)) (R : RunF M opsA.toList bf (List.range opsA.size) F V Hs) (hfr : FrR M φ0 F a0) (hdst : ∀ (i : Nat) o t, opsA.toList[i]? = some o → o.dst = some t → t < a0.tmps.size)
    (hq : ∀ L s φ a w, (∀ i, i < opsA.size → L i = true) → ValI opsA.toList (List.range opsA.size) V a0 L φ a → MemI opsA.toList bf (List.range opsA.size) Hs φ0 w0 L s φ w → Q .normal a w) :
    ∀ (n p : Nat) (L : Nat → Bool) (s : Nat) (φ : Phi) (a : Act) (w : World), p + n = opsA.size → (∀ j, L j = decide (j < p)) → ValI opsA.toList (List.range opsA.size) V a0 L φ a → MemI opsA.toList bf (List.range opsA.size) Hs φ0 w0 L s φ w →
      wpOps Tryz.prog opsA Q ((List.range opsA.size).drop p) a w := by
  intro n
  induction n with
  | zero =>
    intro p L s φ a w hp hL hv hm
    rw [List.drop_eq_nil_of_le (by simp; omega)]
    exact hq L s φ a w (fun i hi => by rw [hL]; exact decide_eq_true (by omega)) hv hm
  | succ n ih =>
    intro p L s φ a w hp hL hv hm
    have hpr : (List.range opsA.size)[p]? = some p := List.getElem?_range (by omega)
    rw [List.drop_eq_getElem_cons (by simp; omega), List.getElem_range, wpOps_cons]
    refine region_step rfl g R hfr hdst hv hm hpr (by rw [hL]; exact decide_eq_false (by omega)) (fun j hj => ?_) (fun s' φ' a' w' hv' hm' => ?_)
    · obtain ⟨q, hq1, hq2⟩ := g.bits hpr hj
      have : q = j := by
        have := (List.getElem?_eq_some_iff.1 hq2).2
        simpa using this
      subst this
      rw [hL]; exact decide_eq_true hq1
    · exact ih (p + 1) _ s' φ' a' w' (by omega) (fun j => by simp only [addL, hL]; rw [← Bool.decide_or]; congr 1; apply propext; omega) hv' hm'
end Go.Proofs.YtkdjhegkcfmkoaaGreat.AM
