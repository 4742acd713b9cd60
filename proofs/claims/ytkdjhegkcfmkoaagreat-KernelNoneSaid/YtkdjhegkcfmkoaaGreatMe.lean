/- The abstract machine over this program: cells that are laid into rows. -/
import Derived.Test.YtkdjhegkcfmkoaaGreatMd
import Derived.Great.BuildSlice
namespace Go.Proofs.YtkdjhegkcfmkoaaGreat.AM
open Go.AM
set_option maxRecDepth 100000
theorem cellAt_set {r : Nat} (hr : 1 ≤ r) {t : Rws} {o i : Nat} (ho : o < r * t.cap) (hi : i < r * t.cap) {row : List AV} :
    cellAt r (t.set (o / r) row) i = if o / r = i / r then row[i % r]? else cellAt r t i := by
  unfold cellAt
  rw [Rws.at_set _ _ _ _ (by rw [Nat.div_lt_iff_lt_mul (by omega), Nat.mul_comm]; exact ho) (by rw [Nat.div_lt_iff_lt_mul (by omega), Nat.mul_comm]; exact hi)]
  split <;> rfl
/-- cells laid: what comes of rows -/
def Laid (r : Nat) (l : List AV) (t : Rws) (o : Nat) (u : Rws) : Prop := 1 ≤ r → o + l.length ≤ r * t.cap → (∀ i, i < t.cap → (t.at i).length ≤ r) →
  u.cap = t.cap ∧ (∀ i, i < u.cap → (u.at i).length ≤ r) ∧ ∀ i, i < r * t.cap → cellAt r u i = if o ≤ i ∧ i < o + l.length then l[i - o]? else cellAt r t i
theorem stC_spec {r : Nat} : ∀ (l : List AV) (t : Rws) (o : Nat) (k : Rws → Bool), stC r l t o k = true → ∃ u : Rws, k u = true ∧ Laid r l t o u := by
  intro l
  induction l with
  | nil =>
    intro t o k hh
    exact ⟨t, hh, fun _ _ hrow => ⟨rfl, hrow, fun i _ => by rw [if_neg (by simp)]⟩⟩
  | cons v l ih =>
    intro t o k hh
    have hh : Rws.get t (o.div r) (fun row => lputK row (o.mod r) v fun row => Rws.put t (o.div r) row fun t => stC r l t o.succ k) = true := hh
    rw [Rws.get_eq] at hh
    obtain ⟨row, h1, h2, h3⟩ := lputK_spec hh
    rw [Rws.put_eq] at h3
    obtain ⟨u, h4, hlaid⟩ := ih (t.set (o.div r) row) o.succ k h3
    refine ⟨u, h4, fun hr ho hrow => ?_⟩
    simp only [List.length_cons] at ho
    have hdiv : o / r < t.cap := by rw [Nat.div_lt_iff_lt_mul (by omega), Nat.mul_comm]; omega
    have hmod : o % r < r := Nat.mod_lt _ (by omega)
    have hcap := Rws.cap_set t (o.div r) row
    obtain ⟨h5, h6, h7⟩ := hlaid hr (by rw [hcap]; omega) (fun i hi => by
      rw [hcap] at hi
      show ((t.set (o / r) row).at i).length ≤ r
      rw [Rws.at_set _ _ _ _ hdiv hi]
      split
      · have := hrow _ hdiv
        have h2 : row.length ≤ max (t.at (o / r)).length (o % r + 1) := h2
        omega
      · exact hrow i hi)
    refine ⟨by rw [h5, hcap], h6, fun i hi => ?_⟩
    rw [h7 i (by rw [hcap]; exact hi)]
    have hc := cellAt_set hr (t := t) (o := o) (i := i) (row := row) (by omega) hi
    have h1 : ∀ j : Nat, row[j]? = if j = o % r then some v else (t.at (o / r))[j]? := h1
    by_cases he : i = o
    · subst he
      rw [if_neg (by omega), if_pos (by simp), Nat.sub_self]
      refine hc.trans ?_
      rw [if_pos rfl, h1, if_pos rfl]; rfl
    · by_cases hin : o + 1 ≤ i ∧ i < o + 1 + l.length
      · rw [if_pos (by simpa using hin), if_pos (by simp; omega)]
        rw [show i - o = (i - (o + 1)) + 1 by omega]
        rfl
      · rw [if_neg (by simpa using hin), if_neg (by simp; omega)]
        refine hc.trans ?_
        by_cases hd : o / r = i / r
        · rw [if_pos hd, h1]
          have : i % r ≠ o % r := by
            intro e
            have a1 := Nat.div_add_mod i r
            have a2 := Nat.div_add_mod o r
            rw [hd, ← e] at a2
            omega
          rw [if_neg this, hd]; rfl
        · rw [if_neg hd]
theorem stB_spec {r : Nat} {l : List AV} {t : Rws} {o : Nat} {k : Rws → Bool} (hh : stB r l t o k = true) : ∃ u : Rws, k u = true ∧ Laid r l t o u := by
  have hh : (Bool.rec (stC r l t o k) (Rws.put t (o.div r) l k) (Bool.rec false ((o.mod r).beq 0) (r.beq (llen l))) : Bool) = true := hh
  cases h1 : r.beq (llen l) with
  | false => rw [h1] at hh; exact stC_spec l t o k hh
  | true =>
    rw [h1] at hh
    cases h2 : (o.mod r).beq 0 with
    | false => rw [h2] at hh; exact stC_spec l t o k hh
    | true =>
      rw [h2] at hh
      have e1 := (beq_iff _ _).1 h1
      rw [llen_eq] at e1
      have e2 : o % r = 0 := (beq_iff _ _).1 h2
      have hh : Rws.put t (o.div r) l k = true := hh
      rw [Rws.put_eq] at hh
      refine ⟨_, hh, fun hr ho hrow => ?_⟩
      have hdiv : o / r < t.cap := by rw [Nat.div_lt_iff_lt_mul (by omega), Nat.mul_comm]; omega
      refine ⟨Rws.cap_set _ _ _, fun i hi => ?_, fun i hi => ?_⟩
      · rw [Rws.cap_set] at hi
        show ((t.set (o / r) l).at i).length ≤ r
        rw [Rws.at_set _ _ _ _ hdiv hi]
        split
        · omega
        · exact hrow i hi
      · refine (cellAt_set hr (t := t) (o := o) (i := i) (row := l) (by omega) hi).trans ?_
        have a1 := Nat.div_add_mod i r
        have a2 := Nat.div_add_mod o r
        have hm := Nat.mod_lt i (show 0 < r by omega)
        by_cases hd : o / r = i / r
        · rw [hd, e2] at a2
          rw [if_pos hd, if_pos (by omega)]
          congr 1
          omega
        · rw [if_neg hd, if_neg]
          intro ⟨b1, b2⟩
          apply hd
          obtain ⟨q, hq⟩ := Nat.dvd_of_mod_eq_zero e2
          subst hq
          rw [Nat.mul_div_cancel_left _ (by omega)]
          symm
          rw [Nat.div_eq_iff (by omega)]
          constructor
          · rw [Nat.mul_comm]; exact b1
          · rw [Nat.mul_comm]; omega
theorem storeA_spec {h : H} {b : Nm} {o : Nat} {l : List AV} {k : H → Bool} (hh : storeA h b o l k = true) :
    ∃ n r t u, h.at b = .mk n r t ∧ o + l.length ≤ n ∧ k (h.put b (.mk n r u)) = true ∧ Laid r l t o u := by
  unfold storeA at hh
  rw [getB_eq] at hh
  obtain ⟨n, r, t, hB, g⟩ := onMk_spec hh
  cases hb : (o.add (llen l)).ble n with
  | false => rw [hb] at g; cases g
  | true =>
    rw [hb] at g
    have hle := (ble_iff _ _).1 hb
    rw [llen_eq] at hle
    obtain ⟨u, g1, g2⟩ := stB_spec (k := fun t => putB h b (.mk n r t) k) g
    rw [putB_eq] at g1
    exact ⟨n, r, t, u, hB, hle, g1, g2⟩
/-! ### new blocks -/
theorem cell_alloc {w : World} {cs : Array Value} {ty : TypeId} (i : Nat) : (w.alloc (.cells cs ty)).cell? ⟨w.heap.size, i, none⟩ = cs[i]? := by
  simp only [World.cell?, heap_alloc_new]; simp
theorem frozen_alloc {w : World} {cs : Array Value} {ty : TypeId} (i : Nat) : (w.alloc (.cells cs ty)).frozen? ⟨w.heap.size, i, none⟩ = false := by
  simp only [World.frozen?, heap_alloc_new]; simp
theorem blk_new {φ : Phi} {w : World} {cs : Array Value} {ty : TypeId} {n r : Nat} {t : Rws} (h1 : n ≤ cs.size) (h2 : 1 ≤ r) (h3 : n ≤ r * t.cap) (h4 : ∀ i, i < t.cap → (t.at i).length ≤ r)
    (h5 : ∀ o, o < n → ∃ v x, cellAt r t o = some v ∧ cs[o]? = some x ∧ RV φ v x ∧ x.oneCell' = true) : BlkR φ (.mk n r t) (w.alloc (.cells cs ty)) w.heap.size 0 cs.size := by
  refine ⟨h1, h2, h3, h4, fun o ho => ?_, fun j hj => ?_, Or.inr fun k => frozen_alloc k⟩
  · obtain ⟨v, x, a1, a2, a3, a4⟩ := h5 o ho
    exact ⟨v, x, a1, by rw [Nat.zero_add, cell_alloc]; exact a2, a3, a4⟩
  · rw [Nat.zero_add, cell_alloc, frozen_alloc]
    exact ⟨by rw [Array.getElem?_eq_getElem hj]; rfl, rfl⟩
theorem RL_cell {φ : Phi} {l : List AV} {cs : Array Value} (h : RL φ l cs.toList) (h1 : One cs.toList) {o : Nat} (ho : o < l.length) : ∃ v x, l[o]? = some v ∧ cs[o]? = some x ∧ RV φ v x ∧ x.oneCell' = true := by
  obtain ⟨x, h2, h3⟩ := RL_at h (List.getElem?_eq_getElem ho)
  refine ⟨_, x, List.getElem?_eq_getElem ho, by rw [← Array.getElem?_toList]; exact h2, h3, ?_⟩
  exact h1 x (List.mem_of_getElem? h2)
theorem blk_row {φ : Phi} {w : World} {cs : Array Value} {ty : TypeId} {l : List AV} (h : RL φ l cs.toList) (h1 : One cs.toList) : BlkR φ (.mk l.length (max l.length 1) (.r0 l)) (w.alloc (.cells cs ty)) w.heap.size 0 cs.size := by
  have hl : l.length = cs.size := by rw [(RL_get.1 h).1, Array.length_toList]
  refine blk_new (by omega) (by omega) (by show _ ≤ max l.length 1 * 1; omega) (fun i _ => by show l.length ≤ _; omega) (fun o ho => ?_)
  obtain ⟨v, x, a⟩ := RL_cell h h1 ho
  refine ⟨v, x, ?_, a.2⟩
  unfold cellAt
  rw [Nat.mod_eq_of_lt (by omega)]
  exact a.1
theorem rowBlk_eq (l : List AV) (k : KB) : rowBlk l k = k (.mk l.length (max l.length 1) (.r0 l)) := by
  unfold rowBlk; rw [forceN_eq, llen_eq]
theorem rowsBlk_spec {m e : Nat} {l : List AV} {k : KB} (hh : rowsBlk m e [] l k = true) :
    ∃ t : Rws, k (.mk (m * e) e t) = true ∧ (1 ≤ e → l.length = m * e → m ≤ t.cap ∧ (∀ i, i < t.cap → (t.at i).length ≤ e) ∧ ∀ o, o < m * e → cellAt e t o = l[o]?) := by
  obtain ⟨t, h1, h2, h3⟩ := Rws.new_spec (show Rws.new m [] (fun t => stC e l t 0 fun t => forceN (m.mul e) fun n => k (.mk n e t)) = true from hh)
  obtain ⟨u, g1, g0⟩ := stC_spec l t 0 _ h3
  rw [forceN_eq] at g1
  refine ⟨u, g1, fun he hl => ?_⟩
  have hm : m * e ≤ e * t.cap := by rw [Nat.mul_comm]; exact Nat.mul_le_mul_left e h1
  obtain ⟨g2, g3, g4⟩ := g0 he (by omega) (fun i _ => by rw [h2]; simp)
  refine ⟨by omega, g3, fun o ho => ?_⟩
  rw [g4 o (by omega), if_pos (by omega)]; rfl
theorem blk_rows {φ : Phi} {w : World} {cs : Array Value} {ty : TypeId} {l : List AV} {m e : Nat} {t : Rws} (he : 1 ≤ e) (hl : l.length = m * e) (ht : m ≤ t.cap) (hrow : ∀ i, i < t.cap → (t.at i).length ≤ e) (hc : ∀ o, o < m * e → cellAt e t o = l[o]?)
    {n : Nat} (hn : m * e ≤ cs.size) (h : RL φ l (cs.toList.take (m * e))) (h1 : One (cs.toList.take (m * e))) (hsz : cs.size = n) : BlkR φ (.mk (m * e) e t) (w.alloc (.cells cs ty)) w.heap.size 0 n := by
  subst hsz
  refine blk_new hn he (by rw [Nat.mul_comm]; exact Nat.mul_le_mul_left e ht) hrow (fun o ho => ?_)
  obtain ⟨x, h2, h3⟩ := RL_at h (List.getElem?_eq_getElem (show o < l.length by omega))
  have h4 := h1 x (List.mem_of_getElem? h2)
  rw [List.getElem?_take, if_pos ho] at h2
  exact ⟨_, x, by rw [hc o ho]; exact List.getElem?_eq_getElem _, by rw [← Array.getElem?_toList]; exact h2, h3, h4⟩
end Go.Proofs.YtkdjhegkcfmkoaaGreat.AM
namespace Go.Proofs.YtkdjhegkcfmkoaaGreat.AM
open Go.AM
set_option maxRecDepth 100000
/-- an operation that makes a block of such a worth under such a name -/
def BirthOk (f : Operand → Operand) (E : List AV) (F : Fr) (o : Oper) (b : Nm) (B : Blk) (r : AV) : Prop :=
  ∀ (φ : Phi) hh ρ w, Mem φ hh w → φ b = none → b.num < hh.nx.num → hh.at b = B → (∀ x ∈ o.op.operands, Rd f E F φ ρ x) →
    ∃ r' w' φ', (execOp ρ o).run Tryz.prog w = .ok (.value r') w' ∧ Kept φ w φ' w' ∧ Mem φ' hh w' ∧ RV φ' r r' ∧ ∀ x, x ≠ b → φ' x = φ x
variable {f : Operand → Operand} {E : List AV} {F : Fr} {o : Oper} {h : H} {c : K2} {cl : Cl}
theorem run_value' (s : Sem Value) (w w' : World) (r : Value) (hs : s.run Tryz.prog w = .ok r w') : (do pure (Next.value (← s)) : Sem Next).run Tryz.prog w = .ok (.value r) w' := by simp [hs]
theorem RV_new_ptr (φ : Phi) (b : Nm) (c m : Nat) : RV (φ.new b (c, 0, m)) (.ptr b 0) (.pointer (some ⟨c, 0, none⟩)) := RV_ptr.2 ⟨c, 0, m, Phi.new_same _ _ _, rfl⟩
theorem RV_new_sl (φ : Phi) (b : Nm) (c m n k e : Nat) (hk : n ≤ k) : RV (φ.new b (c, 0, m)) (.at (.sl b 0 n (some k) e)) (.slice (some ⟨c, 0, none⟩) n k) := RV_at.2 ⟨c, 0, m, Phi.new_same _ _ _, rfl, hk⟩
theorem run_alloc' {t : Nat} {i : TypeInfo} {z : Value} (hi : Tryz.prog.info? t = some i) (hz : i.zero = some z) (w : World) :
    (Instr.alloc t true (.tuple #[])).run Tryz.prog w = .ok (.pointer (some ⟨w.heap.size, 0, none⟩)) (w.alloc (.cells z.cells t)) := by
  unfold Instr.alloc
  rw [Sem.run_bind, run_zeroValue' hi hz]
  simp [newVar, newRow]
theorem birth_alloc {t : Nat} {k : KB} (hh : allocBlk t k = true) : ∃ B, B ≠ .no ∧ k B = true ∧ ∀ (f : Operand → Operand) E F (o : Oper), o.op = .alloc t → ∀ b, BirthOk f E F o b B (.ptr b 0) := by
  unfold allocBlk at hh
  cases hk : zvK t with
  | none => rw [hk] at hh; cases hh
  | some kd =>
    rw [hk] at hh
    have hh : forceL (zeroC t) (fun l => rowBlk l k) = true := hh
    rw [forceL_eq, rowBlk_eq] at hh
    obtain ⟨i, z, hi, hz, hr, h1, _⟩ := zvK_spec hk
    refine ⟨_, (by intro e; cases e), hh, fun f E F o ho b φ hH ρ w hm hf hb hB _ => ?_⟩
    obtain ⟨m1, m2⟩ := hm.born hf hb (.cells z.cells t) z.cells.size (by rw [hB]; exact blk_row (hr _) h1)
    refine ⟨_, _, _, ?_, m2, m1, RV_new_ptr _ _ _ _, fun x hx => Phi.new_other φ _ hx⟩
    simp only [execOp, ho]
    exact run_value' _ w _ _ (run_alloc' hi hz w)
theorem birth_box {t : Nat} {x : Operand} {v : AV} {k : KB} (hv : rdA E F (f x) = some v) (hh : AV.cells v (fun l => rowBlk l k) = true) :
    ∃ B, B ≠ .no ∧ k B = true ∧ ∀ (o : Oper), o.op = .box t x → ∀ b, BirthOk f E F o b B (.ptr b 0) := by
  obtain ⟨cs, h1, h2⟩ := cells_spec hh
  rw [rowBlk_eq] at h1
  refine ⟨_, (by intro e; cases e), h1, fun o ho b φ hH ρ w hm hf hb hB hx => ?_⟩
  have h3 := hx x (by simp [Op.operands, ho]) v hv
  have hl := Phi.le_new (w.heap.size, 0, (ρ x).cells.size) hf
  obtain ⟨h4, h5⟩ := h2 _ _ (RV.mono hl _ _ h3)
  obtain ⟨m1, m2⟩ := hm.born hf hb (.cells (ρ x).cells t) (ρ x).cells.size (by rw [hB]; exact blk_row h4 h5)
  refine ⟨_, _, _, ?_, m2, m1, RV_new_ptr _ _ _ _, fun x hx => Phi.new_other φ _ hx⟩
  simp only [execOp, ho]
  refine run_value' _ w _ _ ?_
  simp [Instr.box, newVar, newRow]
theorem bsK_spec {t n e : Nat} {ps : List (Nat × Operand)} {sg : List Seg} (hk : bsK t n ps = some (e, sg)) : ∃ el i z, Tryz.prog.underlying t = some (.slice el) ∧ Tryz.prog.info? el = some i ∧ i.size = e ∧ 1 ≤ e ∧ n * e ≤ 1000 ∧ i.zero = some z ∧ (∀ φ, RL φ (zeroC el) z.cells.toList) ∧ One z.cells.toList ∧
    (zeroC el).length = e ∧ segs (elemPlace e) ps 0 (zerosL (zeroC el) n) = some sg := by
  unfold bsK at hk
  cases hd : tDesc t with
  | slice el =>
    rw [hd] at hk
    simp only at hk
    split at hk
    · cases hk
    · rename_i hc
      cases hs : segs (elemPlace (tSz el)) ps 0 (zerosL (zeroC el) n) with
      | none => rw [hs] at hk; cases hk
      | some l =>
        rw [hs] at hk
        injection hk with hk
        injection hk with h1 h2
        subst h1; subst h2
        have h0 : tSz el ≠ 0 := fun e => hc (Or.inl e)
        have h3 : n * tSz el ≤ 1000 := by
          apply Nat.le_of_not_lt; intro e; exact hc (Or.inr (Or.inl e))
        have h4 : (zeroC el).length = tSz el := Classical.byContradiction fun e => hc (Or.inr (Or.inr (Or.inl e)))
        obtain ⟨i, hi, hsz⟩ := tSz_some rfl h0
        cases hz : zvK el with
        | none => exact absurd (Or.inr (Or.inr (Or.inr (by rw [hz]; rfl)))) hc
        | some kd =>
          obtain ⟨i', z, hi', hzz, hr, h1, _⟩ := zvK_spec hz
          rw [hi] at hi'
          injection hi' with hi'
          subst hi'
          exact ⟨el, i, z, tDesc_some hd (by intro e; cases e), hi, hsz, by omega, h3, hzz, hr, h1, h4, hs⟩
  | _ => rw [hd] at hk; cases hk
theorem zerosL_succ (z : List AV) (n : Nat) : zerosL z (n + 1) = z ++ zerosL z n := by simp [zerosL, List.replicate_succ]
theorem zerosL_len (z : List AV) (n : Nat) : (zerosL z n).length = n * z.length := by
  induction n with
  | zero => simp [zerosL]
  | succ n ih => rw [zerosL_succ, List.length_append, ih, Nat.add_mul]; omega
theorem zerosL_get (z : List AV) : ∀ (n i : Nat), i < n * z.length → (zerosL z n)[i]? = z[i % z.length]?
  | 0, i, hi => by omega
  | n + 1, i, hi => by
    rw [zerosL_succ]
    by_cases h1 : i < z.length
    · rw [List.getElem?_append_left h1, Nat.mod_eq_of_lt h1]
    · rw [List.getElem?_append_right (by omega), zerosL_get z n (i - z.length) (by rw [Nat.add_mul] at hi; omega)]
      congr 1
      conv => rhs; rw [show i = (i - z.length) + z.length by omega]
      rw [Nat.add_mod_right]
theorem made_get (z : Array Value) (n i : Nat) (hi : i < n) (hz : 0 < z.size) : (madeCells z n)[i]? = z[i % z.size]? := by
  have hm := Nat.mod_lt i hz
  simp [madeCells, hi, hm]
/-- zero values, so many -/
theorem zerosL_made {φ : Phi} {z : List AV} {zs : Array Value} (hr : RL φ z zs.toList) (hz : 0 < z.length) (n : Nat) : RL φ (zerosL z n) (madeCells zs (n * z.length)).toList := by
  have hl : z.length = zs.size := by rw [(RL_get.1 hr).1, Array.length_toList]
  refine RL_get.2 ⟨by rw [zerosL_len]; simp [size_madeCells], fun i x v hx hv => ?_⟩
  have hi : i < n * z.length := by
    have := (List.getElem?_eq_some_iff.1 hx).1
    rwa [zerosL_len] at this
  rw [zerosL_get z n i hi] at hx
  rw [Array.getElem?_toList, made_get _ _ _ hi (by omega), ← hl] at hv
  obtain ⟨u, h1, h2⟩ := RL_at hr hx
  rw [Array.getElem?_toList, hv] at h1
  injection h1 with h1
  subst h1
  exact h2
theorem one_made {zs : Array Value} (h : One zs.toList) (hz : 0 < zs.size) (n : Nat) : One (madeCells zs n).toList := by
  intro y hy
  obtain ⟨i, hi⟩ := List.mem_iff_getElem?.1 hy
  have hlt : i < n := by
    have := (List.getElem?_eq_some_iff.1 hi).1
    rwa [Array.length_toList, size_madeCells] at this
  rw [Array.getElem?_toList, made_get _ _ _ hlt hz, ← Array.getElem?_toList] at hi
  exact h y (List.mem_of_getElem? hi)
theorem birth_bs {t n : Nat} {ps : Array (Nat × Operand)} {k : Nat → KB} (hh : bsBlk t n (ps.map fun p => (p.1, f p.2)).toList E F k = true) :
    ∃ e B, B ≠ .no ∧ k e B = true ∧ ∀ (o : Oper), o.op = .buildSlice t n ps → ∀ b, BirthOk f E F o b B (.at (.sl b 0 n (some n) e)) := by
  unfold bsBlk at hh
  cases hk : bsK t n (ps.map fun p => (p.1, f p.2)).toList with
  | none => rw [hk] at hh; cases hh
  | some q =>
    obtain ⟨e, sg⟩ := q
    rw [hk] at hh
    have hh : runSegs E F sg (fun l => Bool.rec false (rowsBlk n e [] l (k e)) ((llen l).beq (n.mul e))) = true := hh
    obtain ⟨el, i, z, hu, hi, hsz, he, h1000, hz, hr, h1, hzl, hs⟩ := bsK_spec hk
    rw [Array.toList_map] at hs
    obtain ⟨l, g1, g2⟩ := segs_ok ps.toList 0 _ sg _ hs hh
    cases hb : (llen l).beq (n.mul e) with
    | false => rw [hb] at g1; cases g1
    | true =>
      rw [hb] at g1
      have hll : l.length = n * e := by rw [← llen_eq]; exact (beq_iff _ _).1 hb
      obtain ⟨u, g3, g0⟩ := rowsBlk_spec g1
      obtain ⟨g4, g5, g6⟩ := g0 he hll
      refine ⟨e, _, (by intro e; cases e), g3, fun o ho b φ hH ρ w hm hf hb hB hx => ?_⟩
      have hzs : z.cells.size = e := by rw [← hzl, (RL_get.1 (hr φ)).1, Array.length_toList]
      have hmade := zerosL_made (hr φ) (by omega : 0 < (zeroC el).length) n
      rw [hzl] at hmade
      obtain ⟨rs, h2, h3, h4⟩ := g2 φ ρ [] _ rfl hmade (one_made h1 (by omega) _) (fun p hp => hx p.2 (by
        rw [ho]; simp only [Op.operands]
        simp only [List.mem_toArray, List.mem_map]
        exact ⟨p, hp, rfl⟩))
      have hrl : rs.length = n * e := by rw [← (RL_get.1 h3).1]; exact hll
      have hl := Phi.le_new (w.heap.size, 0, n * e) hf
      obtain ⟨m1, m2⟩ := hm.born hf hb (.cells rs.toArray el) (n * e) (by
        rw [hB]
        have htk : rs.toArray.toList.take (n * e) = rs := List.take_of_length_le (by simp; omega)
        exact blk_rows he hll g4 g5 g6 (by simp; omega) (by rw [htk]; exact RL.mono hl _ _ h3) (by rw [htk]; exact h4) (by simp; omega))
      refine ⟨_, _, _, ?_, m2, m1, RV_new_sl _ _ _ _ n n e (Nat.le_refl _), fun x hx => Phi.new_other φ _ hx⟩
      simp only [execOp, ho]
      refine run_value' _ w _ _ ?_
      have hfill : Instr.fill (elemPlace e) (madeCells z.cells (n * e)) (ps.map fun x => match x with | (i, x) => (i, ρ x)).toList = some rs.toArray := by
        have : (ps.map fun x => match x with | (i, x) => (i, ρ x)).toList = ps.toList.map fun p => (p.1, ρ p.2) := by rw [Array.toList_map]
        rw [this]
        simpa using h2
      by_cases hn : n * e = 0
      · rw [hn] at hfill
        have h0 : (Array.range 0).map (z.cells[· % z.cells.size]!) = #[] := by simp
        have h1 : madeCells z.cells 0 = #[] := by simp [madeCells]
        rw [h1] at hfill
        unfold elemPlace at hfill
        have hn' : n * i.size = 0 := by rw [hsz]; exact hn
        have hn2 : n = 0 := by
          rcases Nat.mul_eq_zero.1 hn with h | h
          · exact h
          · omega
        subst hn2
        have hfl : Instr.fill (fun i => some (i * e, e)) #[] (List.map (fun x => (x.1, ρ x.2)) ps.toList) = some rs.toArray := by simpa using hfill
        simp [Instr.buildSlice, run_underlying hu, sizeOf, typeInfo, hi, newRow, hsz, Array.range_zero', hfl]
      · exact run_buildSlice w t el n _ rs.toArray i z hu hi hz (by rw [hsz]; omega) (by rw [hsz]; exact hn) (by rw [hsz]; exact hfill)
end Go.Proofs.YtkdjhegkcfmkoaaGreat.AM
namespace Go.Proofs.YtkdjhegkcfmkoaaGreat.AM
open Go.AM
set_option maxRecDepth 100000
variable {f : Operand → Operand} {E : List AV} {F : Fr} {o : Oper} {h : H} {c : K2} {cl : Cl}
/-- what the class of an element type says -/
structure ElemT (t el e : Nat) (z : List AV) (i : TypeInfo) (zv : Value) : Prop where
  und : Tryz.prog.underlying t = some (.slice el)
  info : Tryz.prog.info? el = some i
  size : i.size = e
  pos : 1 ≤ e
  bytes : i.bytes ≤ 1000000
  zero : i.zero = some zv
  rl : ∀ φ, RL φ z zv.cells.toList
  one : One zv.cells.toList
  len : z.length = e
theorem ElemT.cells {t el e : Nat} {z : List AV} {i : TypeInfo} {zv : Value} (h : ElemT t el e z i zv) : zv.cells.size = e := by
  rw [← h.len, (RL_get.1 (h.rl (fun _ => none))).1, Array.length_toList]
theorem apK_core {t el e : Nat} {z : List AV} {zs zs' p : Prop} [Decidable p] {b b' : Bool} (hu : Tryz.prog.underlying t = some (.slice el)) (hk : (if tSz el = 0 ∨ (zeroC el).length ≠ tSz el ∨ (zvK el).isNone ∨ tBy el = false ∨ p then AK.no else AK.mk b' (tSz el) (zeroC el)) = .mk b e z) :
    (∃ i zv, ElemT t el e z i zv) ∧ b = b' ∧ ¬ p := by
  split at hk
  · cases hk
  · rename_i hc
    injection hk with h1 h2 h3
    subst h2; subst h3
    have h0 : tSz el ≠ 0 := fun e => hc (Or.inl e)
    have h4 : (zeroC el).length = tSz el := Classical.byContradiction fun e => hc (Or.inr (Or.inl e))
    obtain ⟨i, hi, hsz⟩ := tSz_some rfl h0
    have h5 : tBy el = true := by
      cases hb : tBy el with
      | true => rfl
      | false => exact absurd (Or.inr (Or.inr (Or.inr (Or.inl hb)))) hc
    have h6 : i.bytes ≤ 1000000 := by
      unfold tBy at h5
      rw [hi] at h5
      exact (ble_iff _ 1000000).1 h5
    cases hz : zvK el with
    | none => exact absurd (Or.inr (Or.inr (Or.inl (by rw [hz]; rfl)))) hc
    | some kd =>
      obtain ⟨i', zv, hi', hzz, hr, h7, _⟩ := zvK_spec hz
      rw [hi] at hi'
      injection hi' with hi'
      subst hi'
      exact ⟨⟨i, zv, ⟨hu, hi, hsz, by omega, h6, hzz, hr, h7, h4⟩⟩, h1.symm, fun hp => hc (Or.inr (Or.inr (Or.inr (Or.inr hp))))⟩
theorem apK_one {t : Nat} {zs : Bool} {e : Nat} {z : List AV} (hk : apK [t] = .mk zs e z) : ∃ el i zv, ElemT t el e z i zv := by
  unfold apK at hk
  cases hd : tDesc t with
  | slice el =>
    simp only [hd] at hk
    obtain ⟨⟨i, zv, h1⟩, _⟩ := apK_core (zs := True) (zs' := True) (p := False) (tDesc_some hd (by intro e; cases e)) (by simpa using hk)
    exact ⟨el, i, zv, h1⟩
  | _ => simp only [hd] at hk; cases hk
theorem apK_two {t u : Nat} {zs : Bool} {e : Nat} {z : List AV} (hk : apK [t, u] = .mk zs e z) : (∃ el i zv, ElemT t el e z i zv) ∧
    ((zs = true ∧ ∃ k, Tryz.prog.underlying u = some (.int k)) ∨ (zs = false ∧ ((∃ e', Tryz.prog.underlying u = some (.slice e')) ∨ Tryz.prog.underlying u = some .string))) := by
  unfold apK at hk
  cases hd : tDesc t with
  | slice el =>
    simp only [hd] at hk
    obtain ⟨⟨i, zv, h1⟩, h2, h3⟩ := apK_core (zs := True) (zs' := True) (tDesc_some hd (by intro e; cases e)) hk
    refine ⟨⟨el, i, zv, h1⟩, ?_⟩
    cases hu : tDesc u with
    | int k => exact Or.inl ⟨by rw [h2, hu]; rfl, k, tDesc_some hu (by intro e; cases e)⟩
    | slice e' => exact Or.inr ⟨by rw [h2, hu]; rfl, Or.inl ⟨e', tDesc_some hu (by intro e; cases e)⟩⟩
    | string => exact Or.inr ⟨by rw [h2, hu]; rfl, Or.inr (tDesc_some hu (by intro e; cases e))⟩
    | _ => rw [hu] at h3; exact absurd rfl h3
  | _ => simp only [hd] at hk; cases hk
theorem apK_some {ts : List Nat} {zs : Bool} {e : Nat} {z : List AV} (hk : apK ts = .mk zs e z) : (∃ t, ts = [t]) ∨ ∃ t u, ts = [t, u] := by
  match ts, hk with
  | [], hk => cases hk
  | [t], _ => exact Or.inl ⟨t, rfl⟩
  | [t, u], _ => exact Or.inr ⟨t, u, rfl⟩
  | _ :: _ :: _ :: _, hk => cases hk
theorem makeSlice_ok {t : TypeId} {x y : Operand} (ho : o.op = .makeSlice t x y) (hh : b_makeSlice t (f x) (f y) cl E F h c = true) :
    ∃ n m e B, B ≠ .no ∧ newB h B (fun i h => c (.at (.sl i 0 n (some m) e)) h) = true ∧ ∀ b, BirthOk f E F o b B (.at (.sl b 0 n (some m) e)) := by
  unfold b_makeSlice at hh
  cases hk : apK [t] with
  | no => rw [hk] at hh; cases hh
  | mk zs e z =>
    rw [hk] at hh
    obtain ⟨el, i, zv, ht⟩ := apK_one hk
    obtain ⟨a, ha, g1⟩ := rd_spec hh
    obtain ⟨b', hb', g2⟩ := rd_spec g1
    obtain ⟨kn, n, rfl, g3⟩ := onNat_spec g2
    obtain ⟨km, m, rfl, g4⟩ := onNat_spec g3
    have g : (Bool.rec false (Bool.rec false (forceL z fun z => Rws.new m z fun t => forceN (m.mul e) fun l => newB h (.mk l e t) fun i h => c (.at (.sl i 0 n (some m) e)) h) (m.ble 4096)) (n.ble m) : Bool) = true := g4
    clear g1 g2 g3 g4
    cases h1 : n.ble m with
    | false => rw [h1] at g; cases g
    | true =>
      cases h2 : m.ble 4096 with
      | false => rw [h1, h2] at g; cases g
      | true =>
        rw [h1, h2] at g
        have hnm := (ble_iff _ _).1 h1
        have hm4 := (ble_iff _ 4096).1 h2
        simp only [forceL_eq] at g
        obtain ⟨u, u1, u2, u3⟩ := Rws.new_spec g
        rw [forceN_eq] at u3
        refine ⟨n, m, e, .mk (m.mul e) e u, (by intro e; cases e), u3, fun b φ hH ρ w hm hf hb hB hx => ?_⟩
        have hpos := ht.pos
        have hlen := ht.len
        have r1 := RV_int.1 (hx x (by simp [Op.operands, ho]) _ ha)
        have r2 := RV_int.1 (hx y (by simp [Op.operands, ho]) _ hb')
        have hmade := zerosL_made (ht.rl (φ.new b (w.heap.size, 0, m * e))) (by omega) m
        rw [hlen] at hmade
        have hone := one_made ht.one (by rw [ht.cells]; omega) (m * e)
        obtain ⟨m1, m2⟩ := hm.born hf hb (.cells (madeCells zv.cells (m * e)) el) (m * e) (by
          rw [hB]
          have hb2 := blk_new (φ := φ.new b (w.heap.size, 0, m * e)) (w := w) (cs := madeCells zv.cells (m * e)) (ty := el) (n := m * e) (r := e) (t := u) (by rw [size_madeCells]; omega) hpos
            (by rw [Nat.mul_comm]; exact Nat.mul_le_mul_left e u1) (fun i _ => by rw [u2]; omega) (fun p hp => by
              have hpz : p < (zerosL z m).length := by rw [zerosL_len, hlen]; exact hp
              obtain ⟨v, x, a1, a2⟩ := RL_cell hmade hone hpz
              refine ⟨v, x, ?_, a2⟩
              unfold cellAt
              rw [u2, ← a1, zerosL_get z m p (by rw [hlen]; exact hp), hlen])
          rw [size_madeCells] at hb2
          exact hb2)
        refine ⟨_, _, _, ?_, m2, m1, RV_new_sl _ _ _ _ n m e hnm, fun x hx => Phi.new_other φ _ hx⟩
        simp only [execOp, ho]
        refine run_value' _ w _ _ ?_
        rw [r1, r2]
        have hby : (i.bytes : Int) * (Int.ofNat m) ≤ 281474976710656 := by
          have h3 : i.bytes * m ≤ 1000000 * 4096 := Nat.mul_le_mul ht.bytes hm4
          have : ((i.bytes * m : Nat) : Int) ≤ 281474976710656 := by omega
          rwa [Int.natCast_mul] at this
        have hr := run_make (P := Tryz.prog) w t el i zv ht.und ht.info ht.zero kn km (Int.ofNat n) (Int.ofNat m) (by simp) (by simp; omega) hby (by simp; omega)
        rw [ht.size] at hr
        exact hr
theorem b2s_bytes : ∀ (l : List AV) (k : KS), bytesL l k = true → ∃ s : List Nat, k s = true ∧ s.length = l.length ∧ (∀ x ∈ s, x ≤ 255) ∧ ∀ (φ : Phi) vs, RL φ l vs → vs = s.map fun a => Value.int .u8 (Int.ofNat a)
  | [], k, hh => ⟨[], hh, rfl, (by intro x hx; cases hx), fun φ vs hr => by rw [RL_nil] at hr; exact hr⟩
  | v :: l, k, hh => by
    obtain ⟨kd, n, rfl, g0⟩ := onInt_spec (show AV.onInt v (fun kd n => Int.rec (fun m => Bool.rec false (Bool.rec false (bytesL l fun l => k (m :: l)) (m.ble 255)) (beqK kd .u8)) (fun _ => false) n) = true from hh)
    cases n with
    | negSucc m => cases g0
    | ofNat m =>
      have g : (Bool.rec false (Bool.rec false (bytesL l fun l => k (m :: l)) (m.ble 255)) (beqK kd .u8) : Bool) = true := g0
      clear g0
      cases hk : beqK kd .u8 with
      | false => rw [hk] at g; cases g
      | true =>
        cases hb : m.ble 255 with
        | false => rw [hk, hb] at g; cases g
        | true =>
          rw [hk, hb] at g
          have hkd : kd = .u8 := by cases kd <;> first | rfl | cases hk
          subst hkd
          obtain ⟨s, h1, h2, h3, h4⟩ := b2s_bytes l (fun l => k (m :: l)) g
          refine ⟨m :: s, h1, by simp [h2], ?_, fun φ vs hr => ?_⟩
          · intro x hx
            rcases List.mem_cons.1 hx with rfl | hx
            · exact (ble_iff _ 255).1 hb
            · exact h3 x hx
          · obtain ⟨y, r, rfl, h5, h6⟩ := RL_cons.1 hr
            rw [RV_int] at h5
            rw [h4 φ r h6, h5]; rfl
end Go.Proofs.YtkdjhegkcfmkoaaGreat.AM
namespace Go.Proofs.YtkdjhegkcfmkoaaGreat.AM
open Go.AM
set_option maxRecDepth 100000
variable {f : Operand → Operand} {E : List AV} {F : Fr} {o : Oper} {h : H} {c : K2} {cl : Cl}
/-- a bound, as it is given -/
def Bnd (x : Option Value) (d n : Nat) : Prop := (x = none ∧ n = d) ∨ ∃ k, x = some (.int k (Int.ofNat n))
def BndM (hi x : Option Value) (m : Option Nat) : Prop := (x = none ∧ m = none) ∨ ∃ k n, m = some n ∧ x = some (.int k (Int.ofNat n)) ∧ hi ≠ none
theorem rdO_spec {x : Option Operand} {d : Nat} {k : Nat → Bool} (hh : rdO E F (x.map f) d k = true) : ∃ n, k n = true ∧ ∀ (φ : Phi) ρ, (∀ y ∈ x.toList, Rd f E F φ ρ y) → Bnd (x.map ρ) d n := by
  cases x with
  | none => exact ⟨d, hh, fun φ ρ _ => Or.inl ⟨rfl, rfl⟩⟩
  | some y =>
    obtain ⟨v, hv, g⟩ := rd_spec (show rd E F (f y) (fun v => onNat v k) = true from hh)
    obtain ⟨kd, n, rfl, g1⟩ := onNat_spec g
    exact ⟨n, g1, fun φ ρ hx => Or.inr ⟨kd, by rw [Option.map_some, RV_int.1 (hx y (by simp) _ hv)]⟩⟩
theorem rdM_spec {hi x : Option Operand} {k : Option Nat → Bool} (hh : rdM E F (hi.map f) (x.map f) k = true) : ∃ m, k m = true ∧ ∀ (φ : Phi) ρ, (∀ y ∈ x.toList, Rd f E F φ ρ y) → BndM (hi.map ρ) (x.map ρ) m := by
  cases x with
  | none => exact ⟨none, hh, fun φ ρ _ => Or.inl ⟨rfl, rfl⟩⟩
  | some y =>
    cases hi with
    | none => cases hh
    | some z =>
      obtain ⟨v, hv, g⟩ := rd_spec (show rd E F (f y) (fun v => onNat v fun m => k (some m)) = true from hh)
      obtain ⟨kd, n, rfl, g1⟩ := onNat_spec g
      exact ⟨some n, g1, fun φ ρ hx => Or.inr ⟨kd, n, rfl, by rw [Option.map_some, RV_int.1 (hx y (by simp) _ hv)], by simp⟩⟩
theorem run_bounds {s : Bool} {len cap l hi m : Nat} {lo hx mx : Option Value} {mm : Option Nat} (h1 : Bnd lo 0 l) (h2 : Bnd hx len hi) (h3 : BndM hx mx mm) (hm : mm.getD cap = m) (a1 : l ≤ hi) (a2 : hi ≤ m) (a3 : m ≤ cap) (w : World) :
    (Instr.sliceBounds s len cap lo hx mx).run Tryz.prog w = .ok (l, hi, m) w := by
  have b1 : (0 : Int) ≤ (l : Int) := by omega
  have b2 : ((l : Nat) : Int) ≤ (hi : Int) := by omega
  have b3 : ((hi : Nat) : Int) ≤ (m : Int) := by omega
  have b4 : ((m : Nat) : Int) ≤ (cap : Int) := by omega
  have b5 : (0 : Int) ≤ (hi : Int) := by omega
  have b6 : (0 : Int) ≤ (m : Int) := by omega
  rcases h3 with ⟨rfl, rfl⟩ | ⟨km, n, rfl, rfl, hne⟩
  · simp only [Option.getD_none] at hm
    subst hm
    rcases h2 with ⟨rfl, rfl⟩ | ⟨kh, rfl⟩ <;> rcases h1 with ⟨rfl, rfl⟩ | ⟨kl, rfl⟩ <;> simp [Instr.sliceBounds, run_sliceBound, b1, b2, b3, b4, b5, b6]
  · simp only [Option.getD_some] at hm
    subst hm
    rcases h2 with ⟨rfl, rfl⟩ | ⟨kh, rfl⟩
    · exact absurd rfl hne
    · rcases h1 with ⟨rfl, rfl⟩ | ⟨kl, rfl⟩ <;> simp [Instr.sliceBounds, run_sliceBound, b1, b2, b3, b4, b5, b6]
theorem slV_eq (b : Nm) (o n : Nat) (k : Option Nat) (e : Nat) (c : K1) : slV b o n k e c = c (.at (.sl b o n k e)) := by
  unfold slV
  rw [forceN_eq, forceN_eq]
  cases k with
  | none => rfl
  | some k => show forceN k _ = _; rw [forceN_eq]
theorem boolRec_f {b : Bool} {x : Bool} (h : (Bool.rec x false b : Bool) = true) : b = false ∧ x = true := by
  cases b with
  | true => cases h
  | false => exact ⟨rfl, h⟩
theorem boolRec_t {b : Bool} {x : Bool} (h : (Bool.rec false x b : Bool) = true) : b = true ∧ x = true := by
  cases b with
  | false => cases h
  | true => exact ⟨rfl, h⟩
theorem scK_sl {t e : Nat} (hk : scK t = .sl e) : ∃ el i, Tryz.prog.underlying t = some (.slice el) ∧ Tryz.prog.info? el = some i ∧ i.size = e ∧ e ≠ 0 := by
  unfold scK at hk
  cases hd : tDesc t with
  | slice el =>
    simp only [hd] at hk
    by_cases hz : tSz el = 0
    · rw [if_pos hz] at hk; cases hk
    · rw [if_neg hz] at hk
      injection hk with hk
      subst hk
      obtain ⟨i, hi, hs⟩ := tSz_some rfl hz
      exact ⟨el, i, tDesc_some hd (by intro e; cases e), hi, hs, hz⟩
  | array n el =>
    simp only [hd] at hk
    by_cases hz : tSz el = 0
    · rw [if_pos hz] at hk; cases hk
    · rw [if_neg hz] at hk; cases hk
  | pointer a =>
    simp only [hd] at hk
    cases hd2 : tDesc a with
    | array n el =>
      simp only [hd2] at hk
      by_cases hz : tSz el = 0
      · rw [if_pos hz] at hk; cases hk
      · rw [if_neg hz] at hk; cases hk
    | _ => simp only [hd2] at hk; cases hk
  | _ => simp only [hd] at hk; cases hk
theorem scK_str {t : Nat} (hk : scK t = .str) : Tryz.prog.underlying t = some .string := by
  unfold scK at hk
  cases hd : tDesc t with
  | string => exact tDesc_some hd (by intro e; cases e)
  | slice el =>
    simp only [hd] at hk
    by_cases hz : tSz el = 0
    · rw [if_pos hz] at hk; cases hk
    · rw [if_neg hz] at hk; cases hk
  | array n el =>
    simp only [hd] at hk
    by_cases hz : tSz el = 0
    · rw [if_pos hz] at hk; cases hk
    · rw [if_neg hz] at hk; cases hk
  | pointer a =>
    simp only [hd] at hk
    cases hd2 : tDesc a with
    | array n el =>
      simp only [hd2] at hk
      by_cases hz : tSz el = 0
      · rw [if_pos hz] at hk; cases hk
      · rw [if_neg hz] at hk; cases hk
    | _ => simp only [hd2] at hk; cases hk
  | _ => simp only [hd] at hk; cases hk
theorem scK_arr {t n e : Nat} (hk : scK t = .arr n e) : ∃ el i, Tryz.prog.info? el = some i ∧ i.size = e ∧ e ≠ 0 ∧ (Tryz.prog.underlying t = some (.array n el) ∨ ∃ a, Tryz.prog.underlying t = some (.pointer a) ∧ Tryz.prog.underlying a = some (.array n el)) := by
  unfold scK at hk
  cases hd : tDesc t with
  | slice el =>
    simp only [hd] at hk
    by_cases hz : tSz el = 0
    · rw [if_pos hz] at hk; cases hk
    · rw [if_neg hz] at hk; cases hk
  | array m el =>
    simp only [hd] at hk
    by_cases hz : tSz el = 0
    · rw [if_pos hz] at hk; cases hk
    · rw [if_neg hz] at hk
      injection hk with h1 h2
      subst h1; subst h2
      obtain ⟨i, hi, hs⟩ := tSz_some rfl hz
      exact ⟨el, i, hi, hs, hz, Or.inl (tDesc_some hd (by intro e; cases e))⟩
  | pointer a =>
    simp only [hd] at hk
    cases hd2 : tDesc a with
    | array m el =>
      simp only [hd2] at hk
      by_cases hz : tSz el = 0
      · rw [if_pos hz] at hk; cases hk
      · rw [if_neg hz] at hk
        injection hk with h1 h2
        subst h1; subst h2
        obtain ⟨i, hi, hs⟩ := tSz_some rfl hz
        exact ⟨el, i, hi, hs, hz, Or.inr ⟨a, tDesc_some hd (by intro e; cases e), tDesc_some hd2 (by intro e; cases e)⟩⟩
    | _ => simp only [hd2] at hk; cases hk
  | _ => simp only [hd] at hk; cases hk
/-- the part of a slice whose room is known -/
theorem cutS_spec {b : Nm} {p n cp e l hi : Nat} {mx : Option Nat} {k : K1} (hh : cutS b p n cp e l hi mx k = true) :
    ∃ r m, k r = true ∧ mx.getD cp = m ∧ l ≤ hi ∧ hi ≤ m ∧ m ≤ cp ∧ ∀ (φ : Phi) c d mm, φ b = some (c, d, mm) → RV φ r (.slice (some (if m = l then ⟨c, d + p, none⟩ else (⟨c, d + p, none⟩ : Addr).add (l * e))) (hi - l) (m - l)) := by
  obtain ⟨h1, h2⟩ := boolRec_t (show (Bool.rec false _ (l.ble hi) : Bool) = true from hh)
  have hl := (ble_iff _ _).1 h1
  have fin : ∀ m, hi ≤ m → ∀ (φ : Phi) c d mm, φ b = some (c, d, mm) → RV φ (.at (.sl b (Bool.rec (p.add (l.mul e)) p (m.beq l)) (hi.sub l) (some (m.sub l)) e)) (.slice (some (if m = l then ⟨c, d + p, none⟩ else (⟨c, d + p, none⟩ : Addr).add (l * e))) (hi - l) (m - l)) := by
    intro m hm φ c d mm hb
    refine RV_at.2 ⟨c, d, mm, hb, ?_, show hi - l ≤ m - l by omega⟩
    by_cases e1 : m = l
    · rw [if_pos e1, (beq_iff m l).2 e1]; rfl
    · rw [if_neg e1]
      have : m.beq l = false := by
        cases hx : m.beq l with
        | false => rfl
        | true => exact absurd ((beq_iff _ _).1 hx) e1
      rw [this, add_eq]
      show Value.slice _ _ _ = Value.slice (some ⟨c, d + (p + l * e), none⟩) _ _
      rw [Nat.add_assoc]; rfl
  cases mx with
  | none =>
    obtain ⟨h3, h4⟩ := boolRec_t (show (Bool.rec false (slV b (Bool.rec (p.add (l.mul e)) p (cp.beq l)) (hi.sub l) (some (cp.sub l)) e k) (hi.ble cp) : Bool) = true from h2)
    rw [slV_eq] at h4
    have hc := (ble_iff _ _).1 h3
    exact ⟨_, cp, h4, rfl, hl, hc, Nat.le_refl _, fin cp hc⟩
  | some m =>
    obtain ⟨h3, h4⟩ := boolRec_t (show (Bool.rec false (Bool.rec false (slV b (Bool.rec (p.add (l.mul e)) p (m.beq l)) (hi.sub l) (some (m.sub l)) e k) (m.ble cp)) (hi.ble m) : Bool) = true from h2)
    obtain ⟨h5, h6⟩ := boolRec_t h4
    rw [slV_eq] at h6
    have hc := (ble_iff _ _).1 h3
    exact ⟨_, m, h6, rfl, hl, hc, (ble_iff _ _).1 h5, fin m hc⟩
/-- the part of a slice that reaches to its block's end -/
theorem cutF_spec {b : Nm} {p e l hi bn : Nat} {mx : Option Nat} {k : K1} (he : e ≠ 0) (hh : cutF b p e l hi bn mx k = true) :
    ∃ r, k r = true ∧ l ≤ hi ∧ ∀ (φ : Phi) c d mm kk, φ b = some (c, d, mm) → bn ≤ mm → p + kk * e = mm → ∃ m, mx.getD kk = m ∧ hi ≤ m ∧ m ≤ kk ∧
      RV φ r (.slice (some (if m = l then ⟨c, d + p, none⟩ else (⟨c, d + p, none⟩ : Addr).add (l * e))) (hi - l) (m - l)) := by
  obtain ⟨h1, h2⟩ := boolRec_t (show (Bool.rec false _ (l.ble hi) : Bool) = true from hh)
  have hl := (ble_iff _ _).1 h1
  have cancel : ∀ {x y : Nat}, x * e ≤ y * e → x ≤ y := fun {x y} hxy => Nat.le_of_mul_le_mul_right hxy (Nat.pos_of_ne_zero he)
  cases mx with
  | none =>
    obtain ⟨h3, h4⟩ := boolRec_t (show (Bool.rec false (Bool.rec (Bool.rec (k (.at .sz)) (slV b p (hi.sub l) none e k) (l.beq 0)) (slV b (p.add (l.mul e)) (hi.sub l) none e k) (Nat.ble (p.add (l.mul e)).succ bn)) ((p.add (hi.mul e)).ble bn) : Bool) = true from h2)
    have h3 : p + hi * e ≤ bn := (ble_iff _ _).1 h3
    cases h5 : Nat.ble (p.add (l.mul e)).succ bn with
    | true =>
      rw [h5] at h4
      have h5 : p + l * e + 1 ≤ bn := (ble_iff _ _).1 h5
      have h4 : slV b (p.add (l.mul e)) (hi.sub l) none e k = true := h4
      rw [slV_eq] at h4
      refine ⟨_, h4, hl, fun φ c d mm kk hb hbn hk => ⟨kk, rfl, cancel (by omega), Nat.le_refl _, ?_⟩⟩
      have hlt : l ≤ kk := cancel (by omega)
      have hne : kk ≠ l := by intro e1; subst e1; omega
      rw [if_neg hne, add_eq]
      refine RV_at.2 ⟨c, d, mm, kk - l, hb, ?_, ?_, ?_⟩
      · show Value.slice _ _ _ = Value.slice (some ⟨c, d + (p + l * e), none⟩) _ _
        rw [Nat.add_assoc]; rfl
      · have : hi ≤ kk := cancel (by omega)
        show hi - l ≤ kk - l; omega
      · show p + l * e + (kk - l) * e = mm
        rw [Nat.sub_mul]
        have := Nat.mul_le_mul_right e hlt
        omega
    | false =>
      rw [h5] at h4
      have h5 : ¬ p + l * e + 1 ≤ bn := fun hx => by
        have : Nat.ble (p.add (l.mul e)).succ bn = true := (ble_iff _ _).2 hx
        rw [h5] at this; cases this
      cases h6 : l.beq 0 with
      | true =>
        rw [h6] at h4
        have h6 : l = 0 := (beq_iff _ _).1 h6
        subst h6
        have h4 : slV b p (hi.sub 0) none e k = true := h4
        rw [slV_eq] at h4
        refine ⟨_, h4, hl, fun φ c d mm kk hb hbn hk => ⟨kk, rfl, cancel (by omega), Nat.le_refl _, ?_⟩⟩
        have hk2 : hi ≤ kk := cancel (by omega)
        refine RV_at.2 ⟨c, d, mm, kk, hb, ?_, hk2, hk⟩
        have : (if kk = 0 then (⟨c, d + p, none⟩ : Addr) else (⟨c, d + p, none⟩ : Addr).add (0 * e)) = ⟨c, d + p, none⟩ := by
          split
          · rfl
          · rw [add_eq]; simp
        rw [this]; rfl
      | false =>
        rw [h6] at h4
        have h4 : k (.at .sz) = true := h4
        refine ⟨_, h4, hl, fun φ c d mm kk hb hbn hk => ⟨kk, rfl, cancel (by omega), Nat.le_refl _, ?_⟩⟩
        have : hi ≤ l := cancel (by omega)
        rw [show hi - l = 0 by omega]
        exact RV_at.2 ⟨_, _, rfl⟩
  | some m =>
    obtain ⟨h3, h4⟩ := boolRec_t (show (Bool.rec false (Bool.rec false (slV b (Bool.rec (p.add (l.mul e)) p (m.beq l)) (hi.sub l) (some (m.sub l)) e k) ((p.add (m.mul e)).ble bn)) (hi.ble m) : Bool) = true from h2)
    obtain ⟨h5, h6⟩ := boolRec_t h4
    rw [slV_eq] at h6
    have h3 := (ble_iff _ _).1 h3
    have h5 : p + m * e ≤ bn := (ble_iff _ _).1 h5
    refine ⟨_, h6, hl, fun φ c d mm kk hb hbn hk => ⟨m, rfl, h3, cancel (by omega), ?_⟩⟩
    refine RV_at.2 ⟨c, d, mm, hb, ?_, show hi - l ≤ m - l by omega⟩
    by_cases e1 : m = l
    · rw [if_pos e1, (beq_iff m l).2 e1]; rfl
    · rw [if_neg e1]
      have : m.beq l = false := by
        cases hx : m.beq l with
        | false => rfl
        | true => exact absurd ((beq_iff _ _).1 hx) e1
      rw [this, add_eq]
      show Value.slice _ _ _ = Value.slice (some ⟨c, d + (p + l * e), none⟩) _ _
      rw [Nat.add_assoc]; rfl
end Go.Proofs.YtkdjhegkcfmkoaaGreat.AM
namespace Go.Proofs.YtkdjhegkcfmkoaaGreat.AM
open Go.AM
set_option maxRecDepth 100000
variable {f : Operand → Operand} {E : List AV} {F : Fr} {o : Oper} {h : H} {c : K2} {cl : Cl}
theorem run_sliceAt_sl {t el : Nat} {i : TypeInfo} {a : Option Addr} {len cap l hi m : Nat} {lo hx mx : Option Value} (ht : Tryz.prog.underlying t = some (.slice el)) (hi' : Tryz.prog.info? el = some i) (w : World)
    (hb : (Instr.sliceBounds true len cap lo hx mx).run Tryz.prog w = .ok (l, hi, m) w) : (Instr.sliceAt t (.slice a len cap) lo hx mx).run Tryz.prog w = .ok (.slice (if m = l then a else a.map (·.add (l * i.size))) (hi - l) (m - l)) w := by
  unfold Instr.sliceAt
  rw [Sem.run_bind, run_underlying ht]
  simp only [Result.andThen_ok]
  unfold Instr.slice
  rw [Sem.run_bind, run_underlying ht]
  simp [hb, run_sizeOf' hi']
theorem map_if (m l : Nat) (x : Addr) (s : Nat) : (if m = l then some x else (some x).map (·.add s)) = some (if m = l then x else x.add s) := by split <;> rfl
theorem strL_extract (s : ByteArray) (l hi : Nat) (h : hi ≤ s.size) : strL (s.extract l hi) = ((strL s).drop l).take (hi - l) := by
  unfold strL
  rw [← List.map_drop, ← List.map_take]
  congr 1
  simp [List.extract]
theorem opSl {t : TypeId} {x : Operand} {lo hx mx : Option Operand} (ho : o.op = .slice t x lo hx mx) {φ : Phi} {ρ : Operand → Value} (hp : ∀ y ∈ o.op.operands, Rd f E F φ ρ y) :
    Rd f E F φ ρ x ∧ (∀ y ∈ lo.toList, Rd f E F φ ρ y) ∧ (∀ y ∈ hx.toList, Rd f E F φ ρ y) ∧ ∀ y ∈ mx.toList, Rd f E F φ ρ y := by
  rw [ho] at hp
  refine ⟨hp x (by simp [Op.operands]), fun y hy => hp y ?_, fun y hy => hp y ?_, fun y hy => hp y ?_⟩ <;>
  · rw [Option.mem_toList] at hy
    subst hy
    simp [Op.operands]
theorem r_slice {t : TypeId} {x : Operand} {lo hx mx : Option Operand} (ho : o.op = .slice t x lo hx mx) (hh : b_slice t (f x) (lo.map f) (hx.map f) (mx.map f) cl E F h c = true) : Reads f E F o h c := by
  obtain ⟨a, ha, hc⟩ := rd_spec hh
  clear hh
  cases hk : scK t with
  | no => rw [hk] at hc; cases hc
  | str =>
    rw [hk] at hc
    obtain ⟨n, s, rfl, g⟩ := onStr_spec hc
    obtain ⟨l, g1, b1⟩ := rdO_spec g
    obtain ⟨hi, g2, b2⟩ := rdO_spec g1
    cases mx with
    | some m => cases g2
    | none =>
      obtain ⟨e1, g3⟩ := boolRec_t (show (Bool.rec false (Bool.rec false (sdrop s l fun s => stake s (hi.sub l) fun s => forceN (hi.sub l) fun n => c (.at (.str n s)) h) (hi.ble n)) (l.ble hi) : Bool) = true from g2)
      obtain ⟨e2, g4⟩ := boolRec_t g3
      rw [sdrop_eq, stake_eq, forceN_eq] at g4
      have e1 := (ble_iff _ _).1 e1
      have e2 := (ble_iff _ _).1 e2
      refine ⟨_, g4, fun hh _ φ ρ w hm hp => ?_⟩
      obtain ⟨p1, p2, p3, _⟩ := opSl ho hp
      obtain ⟨bs, h1, h2, h3⟩ := RV_at.1 (p1 _ ha)
      refine ⟨.string (bs.extract l hi), ?_, RV_at.2 ⟨_, rfl, ?_, ?_⟩⟩
      · simp only [execOp, ho]
        refine run_value _ w _ ?_
        rw [h1]
        have hb := run_bounds (s := false) (len := bs.size) (cap := bs.size) (l := l) (hi := hi) (m := bs.size) (mx := none) (mm := none) (b1 φ ρ p2) (by rw [h3]; exact b2 φ ρ p3) (Or.inl ⟨rfl, rfl⟩) rfl e1 (by omega) (Nat.le_refl _) w
        unfold Instr.sliceAt
        rw [Sem.run_bind, run_underlying (scK_str hk)]
        simp only [Result.andThen_ok]
        unfold Instr.slice
        rw [Sem.run_bind, run_underlying (scK_str hk)]
        simp [hb]
      · rw [strL_extract _ _ _ (by omega), h2]; rfl
      · simp; omega
  | sl e =>
    rw [hk] at hc
    obtain ⟨el, i, hu, hi', hs, hz⟩ := scK_sl hk
    obtain ⟨l, g1, b1⟩ := rdO_spec hc
    rcases onSl_spec g1 with ⟨b, p, n, k, e', rfl, g2⟩ | ⟨rfl, g2⟩ | ⟨rfl, g2⟩
    · obtain ⟨hi, g3, b2⟩ := rdO_spec g2
      obtain ⟨mm, g4, b3⟩ := rdM_spec g3
      obtain ⟨e1, g5⟩ := boolRec_t g4
      have e1 := (beq_iff _ _).1 e1
      subst e1
      cases k with
      | none =>
        have g5 : getB h b (fun B => onMk B fun bn _ _ => cutF b p e l hi bn mm fun v => c v h) = true := g5
        rw [getB_eq] at g5
        obtain ⟨bn, r, tt, hB, g6⟩ := onMk_spec g5
        obtain ⟨v, g7, hle, g8⟩ := cutF_spec hz g6
        refine ⟨v, g7, fun hh hH φ ρ w hm hp => ?_⟩
        obtain ⟨p1, p2, p3, p4⟩ := opSl ho hp
        obtain ⟨cc, d, m, kk, h1, h2, h3, h4⟩ := RV_at.1 (p1 _ ha)
        have hblk := hm.blk b cc d m h1
        rw [hH.mk hB] at hblk
        obtain ⟨m', q1, q2, q3, q4⟩ := g8 φ cc d m kk h1 hblk.1 h4
        refine ⟨_, ?_, q4⟩
        simp only [execOp, ho]
        refine run_value _ w _ ?_
        rw [h2, run_sliceAt_sl hu hi' w (run_bounds (b1 φ ρ p2) (b2 φ ρ p3) (b3 φ ρ p4) q1 hle q2 q3 w), map_if, hs]
      | some k =>
        have g5 : cutS b p n k e l hi mm (fun v => c v h) = true := g5
        obtain ⟨v, m', g7, q1, hle, q2, q3, g8⟩ := cutS_spec g5
        refine ⟨v, g7, fun hh hH φ ρ w hm hp => ?_⟩
        obtain ⟨p1, p2, p3, p4⟩ := opSl ho hp
        obtain ⟨cc, d, m, h1, h2, h3⟩ := RV_at.1 (p1 _ ha)
        refine ⟨_, ?_, g8 φ cc d m h1⟩
        simp only [execOp, ho]
        refine run_value _ w _ ?_
        rw [h2, run_sliceAt_sl hu hi' w (run_bounds (b1 φ ρ p2) (b2 φ ρ p3) (b3 φ ρ p4) q1 hle q2 q3 w), map_if, hs]
    · obtain ⟨hi, g3, b2⟩ := rdO_spec g2
      obtain ⟨mm, g4, b3⟩ := rdM_spec g3
      obtain ⟨e1, g5⟩ := boolRec_t g4
      obtain ⟨e2, g6⟩ := boolRec_t g5
      have e1 := (beq_iff _ _).1 e1
      have e2 := (beq_iff _ _).1 e2
      subst e1; subst e2
      have g7 : mm.getD 0 = 0 ∧ c (.at .nils) h = true := by
        cases mm with
        | none => exact ⟨rfl, g6⟩
        | some m =>
          obtain ⟨e3, g7⟩ := boolRec_t (show (Bool.rec false (c (.at .nils) h) (m.beq 0) : Bool) = true from g6)
          exact ⟨(beq_iff _ _).1 e3, g7⟩
      refine ⟨_, g7.2, fun hh hH φ ρ w hm hp => ?_⟩
      obtain ⟨p1, p2, p3, p4⟩ := opSl ho hp
      have h2 : ρ x = .slice none 0 0 := RV_at.1 (p1 _ ha)
      refine ⟨.slice none 0 0, ?_, RV_at.2 rfl⟩
      simp only [execOp, ho]
      refine run_value _ w _ ?_
      rw [h2, run_sliceAt_sl hu hi' w (run_bounds (b1 φ ρ p2) (b2 φ ρ p3) (b3 φ ρ p4) g7.1 (Nat.le_refl _) (Nat.le_refl _) (Nat.le_refl _) w)]
      rfl
    · obtain ⟨hi, g3, b2⟩ := rdO_spec g2
      cases mx with
      | some m => cases g3
      | none =>
        obtain ⟨e1, g5⟩ := boolRec_t (show (Bool.rec false (Bool.rec false (c (.at .sz) h) (hi.beq 0)) (l.beq 0) : Bool) = true from g3)
        obtain ⟨e2, g6⟩ := boolRec_t g5
        have e1 := (beq_iff _ _).1 e1
        have e2 := (beq_iff _ _).1 e2
        subst e1; subst e2
        refine ⟨_, g6, fun hh hH φ ρ w hm hp => ?_⟩
        obtain ⟨p1, p2, p3, p4⟩ := opSl ho hp
        obtain ⟨aa, kk, h2⟩ : ∃ a k, ρ x = .slice a 0 k := RV_at.1 (p1 _ ha)
        refine ⟨.slice (if kk = 0 then aa else aa.map (·.add (0 * i.size))) 0 (kk - 0), ?_, RV_at.2 ⟨_, _, rfl⟩⟩
        · simp only [execOp, ho]
          refine run_value _ w _ ?_
          rw [h2, Option.map_none, run_sliceAt_sl hu hi' w (run_bounds (m := kk) (b1 φ ρ p2) (b2 φ ρ p3) (Or.inl ⟨rfl, rfl⟩) rfl (Nat.le_refl _) (Nat.zero_le _) (Nat.le_refl _) w)]
  | arr n e =>
    rw [hk] at hc
    obtain ⟨b, p, rfl, g⟩ := onPtr_spec hc
    obtain ⟨l, g1, b1⟩ := rdO_spec g
    obtain ⟨hi, g3, b2⟩ := rdO_spec g1
    obtain ⟨mm, g4, b3⟩ := rdM_spec g3
    obtain ⟨el, i, hi', hs, hz, hu⟩ := scK_arr hk
    obtain ⟨v, m', g7, q1, hle, q2, q3, g8⟩ := cutS_spec g4
    refine ⟨v, g7, fun hh hH φ ρ w hm hp => ?_⟩
    obtain ⟨p1, p2, p3, p4⟩ := opSl ho hp
    obtain ⟨cc, d, m, h1, h2⟩ := RV_ptr.1 (p1 _ ha)
    refine ⟨_, ?_, g8 φ cc d m h1⟩
    simp only [execOp, ho]
    refine run_value _ w _ ?_
    have hb := run_bounds (s := false) (b1 φ ρ p2) (b2 φ ρ p3) (b3 φ ρ p4) q1 hle q2 q3 w
    rw [h2]
    rcases hu with hu | ⟨a, hu, hu2⟩
    · unfold Instr.sliceAt
      rw [Sem.run_bind, run_underlying hu]
      simp [Instr.sureAddr, hb, run_sizeOf' hi', hs]
    · unfold Instr.sliceAt
      rw [Sem.run_bind, run_underlying hu]
      simp only [Result.andThen_ok]
      unfold Instr.slice
      rw [Sem.run_bind, run_underlying hu]
      simp [asAddr, run_underlying hu2, hb, run_sizeOf' hi', hs]
theorem fold_bytes : ∀ (ns : List Nat) (r : ByteArray), (∀ x ∈ ns, x ≤ 255) → strL ((ns.map Int.ofNat).foldl (fun r n => r.push (UInt8.ofNat n.toNat)) r) = strL r ++ ns ∧ ((ns.map Int.ofNat).foldl (fun r n => r.push (UInt8.ofNat n.toNat)) r).size = r.size + ns.length
  | [], r, _ => by simp
  | a :: ns, r, h => by
    simp only [List.map_cons, List.foldl_cons]
    obtain ⟨h1, h2⟩ := fold_bytes ns (r.push (UInt8.ofNat (Int.ofNat a).toNat)) (fun x hx => h x (by simp [hx]))
    rw [h1, h2]
    have ha := h a (by simp)
    refine ⟨?_, ?_⟩
    · have : strL (r.push (UInt8.ofNat (Int.ofNat a).toNat)) = strL r ++ [a] := by
        unfold strL
        simp [ByteArray.push, Nat.mod_eq_of_lt (show a < 256 by omega)]
      rw [this, List.append_assoc]; rfl
    · have : (r.push (UInt8.ofNat (Int.ofNat a).toNat)).size = r.size + 1 := by simp
      rw [this, List.length_cons]; omega
theorem r_b2s {s d : TypeId} {x : Operand} (ho : o.op = .convert s d x) (hk : cvK s d = .b2s) (hh : b_convert s d (f x) cl E F h c = true) : Reads f E F o h c := by
  obtain ⟨a, ha, hc⟩ := rd_spec hh
  rw [hk] at hc
  clear hh
  obtain ⟨hd, el, hs, he⟩ := cvK_b2s hk
  have nil : ∀ (v : Value), (v = .slice none 0 0 ∨ ∃ a k, v = .slice a 0 k) → ∀ w, (convert s d v).run Tryz.prog w = .ok (.string ByteArray.empty) w := by
    intro v hv w
    have : ∃ a k, v = .slice a 0 k := by
      rcases hv with rfl | h
      · exact ⟨none, 0, rfl⟩
      · exact h
    obtain ⟨a, k, rfl⟩ := this
    rw [run_convert_bytes_string w s d el a 0 k hs he hd]
    cases a with
    | none => simp [Conv.bytesToString]
    | some a => exact run_bytesToString w a 0 k [] (run_loadCells_list (P := Tryz.prog) w a [] (fun j v hj => by simp at hj))
  rcases onSl_spec hc with ⟨b, p, n, k, e, rfl, g⟩ | ⟨rfl, g⟩ | ⟨rfl, g⟩
  · obtain ⟨e1, g1⟩ := boolRec_t g
    have e1 := (beq_iff _ _).1 e1
    subst e1
    obtain ⟨bn, r, tt, hB, hp, g2⟩ := loadA_spec g1
    obtain ⟨l, g3, hrow⟩ := rowAt_spec g2
    obtain ⟨ss, g4, hl, h255, g5⟩ := b2s_bytes _ _ g3
    refine ⟨_, g4, fun hh hH φ ρ w hm hx => ?_⟩
    have h1 := hx x (by simp [Op.operands, ho]) _ ha
    obtain ⟨cc, dd, m, kk, h2, h3, h4⟩ := RV_sl h1
    obtain ⟨vs, h5, h6, h7, h8⟩ := Mem.cells hm h2 (hH.mk hB) hp hrow
    have hvs := g5 φ vs h6
    have hload := run_loadCells_list (P := Tryz.prog) w ⟨cc, dd + p, none⟩ vs h8
    have hlen : ss.length = n := by rw [hl, (RL_get.1 h6).1, h5]
    obtain ⟨f1, f2⟩ := fold_bytes ss ByteArray.empty h255
    refine ⟨.string _, ?_, RV_at.2 ⟨_, rfl, f1, ?_⟩⟩
    · simp only [execOp, ho]
      refine run_value _ w _ ?_
      rw [h3, run_convert_bytes_string w s d el _ n kk hs he hd]
      refine run_bytesToString w _ n kk (ss.map Int.ofNat) ?_
      rw [h5] at hload
      rw [hload, hvs, List.map_map]; rfl
    · rw [f2, hlen]; simp
  · refine ⟨_, g, fun hh hH φ ρ w hm hx => ⟨.string ByteArray.empty, ?_, RV_at.2 ⟨_, rfl, rfl, rfl⟩⟩⟩
    have h1 : ρ x = .slice none 0 0 := RV_at.1 (hx x (by simp [Op.operands, ho]) _ ha)
    simp only [execOp, ho]
    exact run_value _ w _ (nil _ (Or.inl h1) w)
  · refine ⟨_, g, fun hh hH φ ρ w hm hx => ⟨.string ByteArray.empty, ?_, RV_at.2 ⟨_, rfl, rfl, rfl⟩⟩⟩
    have h1 : ∃ a k, ρ x = .slice a 0 k := RV_at.1 (hx x (by simp [Op.operands, ho]) _ ha)
    simp only [execOp, ho]
    exact run_value _ w _ (nil _ (Or.inr h1) w)
end Go.Proofs.YtkdjhegkcfmkoaaGreat.AM
