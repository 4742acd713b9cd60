/- The abstract machine over this program: what changes memory. -/
import Derived.Test.YtkdjhegkcfmkoaaGreatMe
import Derived.Deep.AppendSrc
namespace Go.Proofs.YtkdjhegkcfmkoaaGreat.AM
open Go.AM
set_option maxRecDepth 100000
/-- a deferred call that does nothing where nothing goes wrong -/
def IdleD (d : Deferred) : Prop := ∃ fv cap g args, d.target = .fn fv cap ∧ (∀ w, (invoke d.target d.args).run Tryz.prog w = .ok (.enter g args) w) ∧ idleF g = true
/-- what an operation does that changes memory, as far as it comes to its end at once -/
def LoudV (f : Operand → Operand) (E : List AV) (F : Fr) (o : Oper) (h h' : H) (r : AV) : Prop :=
  h.nx.num ≤ h'.nx.num ∧ ∀ (φ : Phi) ρ w, Mem φ h w → (∀ x ∈ o.op.operands, Rd f E F φ ρ x) →
    ∃ nv φ' w' r', (execOp ρ o).run Tryz.prog w = .ok nv w' ∧ (nv = .value r' ∨ (nv = .skip ∧ r' = undef)) ∧ Kept φ w φ' w' ∧ Old h.nx.num φ φ' ∧ Mem φ' h' w' ∧ RV φ' r r'
/-- the same for any -/
def LoudOk (f : Operand → Operand) (E : List AV) (F : Fr) (o : Oper) (h h' : H) (r : AV) : Prop :=
  h.nx.num ≤ h'.nx.num ∧ ∀ (φ : Phi) (a : Act) w (next : Act → World → Prop) (Q : Exit → Act → World → Prop), Mem φ h w → (∀ x ∈ o.op.operands, Rd f E F φ a.eval x) →
    (∀ φ' w' r' ds, (∀ d ∈ ds, IdleD d) → Kept φ w φ' w' → Old h.nx.num φ φ' → Mem φ' h' w' → RV φ' r r' → next (({ a with defers := ds ++ a.defers } : Act).put o.dst r') w') → o.wp Tryz.prog a w next Q
theorem LoudV.ok {f : Operand → Operand} {E : List AV} {F : Fr} {o : Oper} {h h' : H} {r : AV} (hl : LoudV f E F o h h' r) : LoudOk f E F o h h' r := by
  refine ⟨hl.1, fun φ a w next Q hm hx hn => ?_⟩
  obtain ⟨nv, φ', w', r', h1, h2, h3, h4, h5, h6⟩ := hl.2 φ a.eval w hm hx
  have h7 := hn φ' w' r' [] (by intro d hd; cases hd) h3 h4 h5 h6
  unfold Oper.wp
  rw [h1]
  rcases h2 with rfl | ⟨rfl, rfl⟩
  · exact h7
  · exact h7
variable {f : Operand → Operand} {E : List AV} {F : Fr} {o : Oper} {h : H} {c : K2} {cl : Cl}
/-- it is true of what comes of it -/
def Loud (f : Operand → Operand) (E : List AV) (F : Fr) (o : Oper) (h : H) (c : K2) : Prop := ∃ r h', c r h' = true ∧ LoudOk f E F o h h' r
theorem Mem.cells_there {φ : Phi} {w : World} (hm : Mem φ h w) {b : Nm} {c d m n r : Nat} {t : Rws} (hb : φ b = some (c, d, m)) (hB : h.at b = .mk n r t) : n ≤ m ∧ 1 ≤ r ∧ n ≤ r * t.cap ∧ (∀ i, i < t.cap → (t.at i).length ≤ r) ∧
    (∀ j, j < m → (w.cell? ⟨c, d + j, none⟩).isSome = true ∧ w.frozen? ⟨c, d + j, none⟩ = false) := by
  have hblk := hm.blk b c d m hb
  rw [hB] at hblk
  exact ⟨hblk.1, hblk.2.1, hblk.2.2.1, hblk.2.2.2.1, hblk.2.2.2.2.2.1⟩
theorem Mem.mark {φ : Phi} {w : World} (hm : Mem φ h w) {b : Nm} {c d m n r : Nat} {t : Rws} (hb : φ b = some (c, d, m)) (hB : h.at b = .mk n r t) : r = 1 ∨ ∀ k, w.frozen? ⟨c, k, none⟩ = false := by
  have hblk := hm.blk b c d m hb
  rw [hB] at hblk
  exact hblk.2.2.2.2.2.2
/-- cells are stored: the model's way and ours -/
theorem store_ok {φ : Phi} {w : World} (hm : Mem φ h w) {b : Nm} {cc d m n r : Nat} {t u : Rws} (hb : φ b = some (cc, d, m)) (hB : h.at b = .mk n r t) {l : List AV} {vs : List Value} {p : Nat} (hl : RL φ l vs) (h1 : One vs) (hp : p + l.length ≤ n) (hu : Laid r l t p u) :
    (storeCells ⟨cc, d + p, none⟩ vs).run Tryz.prog w = .ok () (w.setCells cc (d + p) vs) ∧ Mem φ (h.put b (.mk n r u)) (w.setCells cc (d + p) vs) ∧ Kept φ w φ (w.setCells cc (d + p) vs) := by
  obtain ⟨e1, e2, e3, e4, e5⟩ := Mem.cells_there hm hb hB
  have hlen := (RL_get.1 hl).1
  obtain ⟨u1, u2, u3⟩ := hu e2 (by omega) e4
  obtain ⟨m1, m2⟩ := hm.store hb hB hl h1 hp u1 u2 u3
  refine ⟨?_, m1, m2⟩
  have := run_storeCells_cells (P := Tryz.prog) cc (d + p) vs 0 w (fun j hj => by
      have := (e5 (p + j) (by omega)).1
      rwa [← Nat.add_assoc] at this) (fun j hj => by
      have := (e5 (p + j) (by omega)).2
      rwa [← Nat.add_assoc] at this) h1
  simpa using this
theorem l_store {t : TypeId} {x y : Operand} (ho : o.op = .store t x y) (hh : b_store t (f x) (f y) cl E F h c = true) : Loud f E F o h c := by
  obtain ⟨a, ha, hc⟩ := rd_spec hh
  obtain ⟨b, p, rfl, g⟩ := onPtr_spec hc
  obtain ⟨v, hv, g1⟩ := rd_spec g
  obtain ⟨cs, g2, g3⟩ := cells_spec g1
  obtain ⟨e1, g4⟩ := boolRec_t g2
  have e1 := (beq_iff _ _).1 e1
  rw [llen_eq] at e1
  cases hz : (tSz t).beq 0 with
  | true => rw [hz] at g4; cases g4
  | false =>
    rw [hz] at g4
    have hz' : tSz t ≠ 0 := fun e => by rw [(beq_iff _ _).2 e] at hz; cases hz
    obtain ⟨i, hi, hs⟩ := tSz_some rfl hz'
    obtain ⟨n, r, tt, u, hB, hp, g5, hu⟩ := storeA_spec g4
    refine ⟨_, _, g5, LoudV.ok ⟨Nat.le_refl _, fun φ ρ w hm hx => ?_⟩⟩
    obtain ⟨cc, d, m, h1, h2⟩ := RV_ptr.1 (hx x (by simp [Op.operands, ho]) _ ha)
    obtain ⟨h3, h4⟩ := g3 φ _ (hx y (by simp [Op.operands, ho]) _ hv)
    obtain ⟨q1, q2, q3⟩ := store_ok hm h1 hB h3 h4 hp hu
    refine ⟨.skip, φ, _, undef, ?_, Or.inr ⟨rfl, rfl⟩, q3, Old.refl _ _, q2, RV_at.2 trivial⟩
    simp only [execOp, ho]
    have hsz : ¬ (ρ y).cells.size ≠ i.size := by
      have : cs.length = (ρ y).cells.size := by rw [(RL_get.1 h3).1]; simp
      omega
    have hst : (Instr.storeAt t (ρ x) (ρ y)).run Tryz.prog w = .ok () (w.setCells cc (d + p) (ρ y).cells.toList) := by
      rw [h2]
      unfold Instr.storeAt storeVar
      simp only [Instr.sureAddr, Sem.run_bind, Sem.run_pure, Result.andThen_ok, run_sizeOf' hi, if_neg hsz, q1]
    simp [hst]
theorem l_range {t : TypeId} {x : Operand} (ho : o.op = .range t x) (hh : b_range t (f x) cl E F h c = true) : Loud f E F o h c := by
  obtain ⟨a, ha, hc⟩ := rd_spec hh
  obtain ⟨n, l, rfl, g⟩ := onStr_spec hc
  obtain ⟨e1, g1⟩ := boolRec_t g
  obtain ⟨h', k1, k2, k3⟩ := newB_spec g1
  refine ⟨_, h', k3, LoudV.ok ⟨by omega, fun φ ρ w hm hx => ?_⟩⟩
  obtain ⟨s, h1, h2, h3⟩ := RV_at.1 (hx x (by simp [Op.operands, ho]) _ ha)
  have hu : Tryz.prog.underlying t = some .string := by
    cases hd : tDesc t with
    | string => exact tDesc_some hd (by intro e; cases e)
    | _ => rw [hd] at e1; cases e1
  obtain ⟨m1, m2⟩ := hm.new (B := .it l 0) k1 k2 (.stringIter s 0) 0 ⟨rfl, s, by rw [heap_alloc_new], h2⟩
  refine ⟨_, _, _, .pointer (some ⟨w.heap.size, 0, none⟩), ?_, Or.inl rfl, m2, Old.new _ _ _, m1, RV_new_ptr _ _ _ _⟩
  simp only [execOp, ho]
  refine run_value' _ w _ _ ?_
  rw [h1]
  simp [Instr.range, run_underlying hu]
end Go.Proofs.YtkdjhegkcfmkoaaGreat.AM
namespace Go.AM
/-- a block's worth is another -/
theorem Mem.change {φ : Phi} {h : H} {w w' : World} (hm : Mem φ h w) {b : Nm} {c d m : Nat} (hb : φ b = some (c, d, m)) (hne : h.at b ≠ .no) (B : Blk) (hs : w'.heap.size = w.heap.size)
    (ho : ∀ x, x < w.heap.size → x ≠ c → w'.heap[x]? = w.heap[x]?) (ht : w'.tape = w.tape ∧ w'.os = w.os ∧ w'.output = w.output) (hB : BlkR φ B w' c d m) : Mem φ (h.put b B) w' ∧ Kept φ w φ w' := by
  refine ⟨⟨?_, ?_, hm.fresh, fun b' c' d' m' hb' => (by rw [hs]; exact hm.low b' c' d' m' hb'), fun b' hb' => ?_⟩, ⟨φ.le_refl, by rw [hs]; exact Nat.le_refl _, fun c' h1 h2 => ho c' h1 (fun e => h2 b d m (e ▸ hb)), fun b _ d m hb _ => ⟨b, d, m, hb⟩, ht.1, ht.2.1, ht.2.2⟩⟩
  · intro b' c' d' m' hb'
    rw [H.at_put]
    by_cases e : b = b'
    · subst e
      rw [hb] at hb'
      injection hb' with hb'
      injection hb' with g1 g2
      injection g2 with g2 g3
      subst g1; subst g2; subst g3
      rw [if_pos rfl]; exact hB
    · rw [if_neg e]
      by_cases hn : h.at b' = .no
      · rw [hn]; trivial
      · exact (hm.blk b' c' d' m' hb').same (ho c' (hm.low _ _ _ _ hb') (fun ec => by subst ec; exact e (hm.inj b b' _ _ _ _ _ hb hb' hne hn)))
  · intro b1 b2 c' d1 m1 d2 m2 g1 g2 n1 n2
    rw [H.at_put] at n1 n2
    refine hm.inj b1 b2 c' d1 m1 d2 m2 g1 g2 ?_ ?_
    · by_cases e : b = b1
      · subst e; exact hne
      · rwa [if_neg e] at n1
    · by_cases e : b = b2
      · subst e; exact hne
      · rwa [if_neg e] at n2
  · rw [H.at_put, if_neg (by intro e; subst e; rw [hm.fresh b hb'] at hb; cases hb)]
    exact hm.clean b' hb'
end Go.AM
namespace Go.Proofs.YtkdjhegkcfmkoaaGreat.AM
open Go.AM
set_option maxRecDepth 100000
variable {f : Operand → Operand} {E : List AV} {F : Fr} {o : Oper} {h : H} {c : K2} {cl : Cl}
theorem strL_len (s : ByteArray) : (strL s).length = s.size := by unfold strL; rw [List.length_map, Array.length_toList]; rfl
theorem decode_low {s : ByteArray} {p a : Nat} (hs : (strL s)[p]? = some a) (ha : a ≤ 127) : Utf8.decode s p = (a, 1) := by
  obtain ⟨b, h1, h2⟩ := strL_get rfl hs
  have hp : p < s.size := by
    have := (List.getElem?_eq_some_iff.1 hs).1
    rwa [strL_len] at this
  have hg : s.get! p = b := by
    rw [getElem?_pos s p hp] at h1
    injection h1 with h1
    rw [← h1]
    show s.data.get!Internal p = s.data[p]
    exact getElem!_pos s.data p hp
  unfold Utf8.decode
  simp only [Nat.add_zero, hg, h2]
  rw [if_pos (by omega)]
theorem l_next {x : Operand} {s : Bool} (ho : o.op = .next x s) (hh : b_next (f x) s cl E F h c = true) : Loud f E F o h c := by
  obtain ⟨a, ha, hc⟩ := rd_spec hh
  obtain ⟨b, p, rfl, g⟩ := onPtr_spec hc
  have g : getB h b (fun B => onIt B fun l p1 => Bool.rec false (Bool.rec false
    (Bool.rec (c (.tup [.bool false]) h) (snth l p1 fun a => forceN p1.succ fun p2 => Bool.rec false (putB h b (.it l p2) fun h => c (.tup [.bool true, .int .i64 (Int.ofNat p1), .int .i32 (Int.ofNat a)]) h) (a.ble 127)) (Nat.ble p1.succ l.length)) (p.beq 0)) s) = true := g
  rw [getB_eq] at g
  obtain ⟨l, q, hB, g1⟩ := onIt_spec g
  obtain ⟨e1, g2⟩ := boolRec_t g1
  subst e1
  obtain ⟨e2, g3⟩ := boolRec_t g2
  have e2 := (beq_iff _ _).1 e2
  subst e2
  have hne : h.at b ≠ .no := by rw [hB]; intro e; cases e
  cases hq : Nat.ble q.succ l.length with
  | false =>
    rw [hq] at g3
    refine ⟨_, _, g3, LoudV.ok ⟨Nat.le_refl _, fun φ ρ w hm hx => ?_⟩⟩
    obtain ⟨cc, d, m, h1, h2⟩ := RV_ptr.1 (hx x (by simp [Op.operands, ho]) _ ha)
    have hblk := hm.blk b cc d m h1
    rw [hB] at hblk
    obtain ⟨rfl, ss, h3, h4⟩ := hblk
    refine ⟨_, φ, w, .tuple #[.bool false], ?_, Or.inl rfl, Kept.refl _ _, Old.refl _ _, hm, RV_tup.2 ⟨_, rfl, ?_⟩⟩
    · simp only [execOp, ho]
      refine run_value' _ w _ _ ?_
      rw [h2]
      have hlt : ¬ q < ss.size := by
        intro hlt
        have := (ble_iff q.succ l.length).2 (by rw [← h4, strL_len]; omega)
        rw [hq] at this; cases this
      simp [Instr.next, getObj, Sem.run, h3, hlt]
    · rw [RL_cons]; exact ⟨_, _, rfl, by rw [RV_bool], by rw [RL_nil]⟩
  | true =>
    rw [hq] at g3
    obtain ⟨v, hv, g4⟩ := snth_spec g3
    rw [forceN_eq] at g4
    obtain ⟨e3, g5⟩ := boolRec_t g4
    rw [putB_eq] at g5
    have e3 := (ble_iff _ 127).1 e3
    refine ⟨_, _, g5, LoudV.ok ⟨Nat.le_refl _, fun φ ρ w hm hx => ?_⟩⟩
    obtain ⟨cc, d, m, h1, h2⟩ := RV_ptr.1 (hx x (by simp [Op.operands, ho]) _ ha)
    have hblk := hm.blk b cc d m h1
    rw [hB] at hblk
    obtain ⟨rfl, ss, h3, h4⟩ := hblk
    have hlow := hm.low _ _ _ _ h1
    obtain ⟨m1, m2⟩ := hm.change (w' := { w with heap := w.heap.setIfInBounds cc (.stringIter ss (q + 1)) }) h1 hne (.it l q.succ) (by simp) (fun x hx hne => by
      show (w.heap.setIfInBounds cc _)[x]? = _
      rw [Array.getElem?_setIfInBounds_ne (Ne.symm hne)]) ⟨rfl, rfl, rfl⟩ ⟨rfl, ss, by
        show (w.heap.setIfInBounds cc _)[cc]? = _
        rw [Array.getElem?_setIfInBounds_self_of_lt hlow], h4⟩
    refine ⟨_, φ, _, .tuple #[.bool true, .int .i64 (Int.ofNat q), .int .i32 (Int.ofNat v)], ?_, Or.inl rfl, m2, Old.refl _ _, m1, RV_tup.2 ⟨_, rfl, ?_⟩⟩
    · simp only [execOp, ho]
      refine run_value' _ w _ _ ?_
      rw [h2]
      have hlt : q < ss.size := by
        have := (ble_iff _ _).1 hq
        rw [← h4, strL_len] at this
        omega
      have hd := decode_low (by rw [h4]; exact hv) e3
      simp [Instr.next, getObj, setObj, Sem.run, h3, hlt, hd, goInt]
    · rw [RL_cons]; refine ⟨_, _, rfl, by rw [RV_bool], ?_⟩
      rw [RL_cons]; refine ⟨_, _, rfl, by rw [RV_int], ?_⟩
      rw [RL_cons]; exact ⟨_, _, rfl, by rw [RV_int], by rw [RL_nil]⟩
end Go.Proofs.YtkdjhegkcfmkoaaGreat.AM
namespace Go.Proofs.YtkdjhegkcfmkoaaGreat.AM
open Go.AM
set_option maxRecDepth 100000
variable {f : Operand → Operand} {E : List AV} {F : Fr} {o : Oper} {h : H} {c : K2} {cl : Cl}
theorem idleF_spec {g : Nat} (h : idleF g = true) : g = 78 ∨ g = 301 ∨ g = 377 := by
  unfold idleF at h
  rw [Bool.or_eq_true, Bool.or_eq_true] at h
  rcases h with h | h | h
  · exact Or.inl ((beq_iff _ _).1 h)
  · exact Or.inr (Or.inl ((beq_iff _ _).1 h))
  · exact Or.inr (Or.inr ((beq_iff _ _).1 h))
theorem call_idle {g : Nat} (h : idleF g = true) (args : Array Value) (w : World) : (callFunc g args).run Tryz.prog w = .ok (.enter g args) w := by
  rcases idleF_spec h with rfl | rfl | rfl
  · exact Tryz.call78 args w
  · exact Tryz.call301 args w
  · exact Tryz.call377 args w
theorem l_defer {x : Call} (ho : o.op = .defer x) (hh : b_defer (mapCall f x) cl E F h c = true) : Loud f E F o h c := by
  cases hcal : x.callee with
  | invoke a m =>
    have : (mapCall f x).callee = .invoke (f a) m := by unfold mapCall; simp only [hcal]
    unfold b_defer at hh
    rw [this] at hh; cases hh
  | builtin b =>
    have : (mapCall f x).callee = .builtin b := by unfold mapCall; simp only [hcal]
    unfold b_defer at hh
    rw [this] at hh; cases hh
  | value g =>
    have e : (mapCall f x).callee = .value (f g) := by unfold mapCall; simp only [hcal]
    unfold b_defer at hh
    rw [e] at hh
    obtain ⟨v, hv, g1⟩ := rd_spec (show rd E F (f g) (fun q => AV.onFn q fun q _ _ => Bool.rec false (c .any h) (idleF q)) = true from hh)
    obtain ⟨fn, nf, fl, rfl, g2⟩ := onFn_spec g1
    obtain ⟨e1, g3⟩ := boolRec_t g2
    refine ⟨_, _, g3, Nat.le_refl _, fun φ a w next Q hm hx hn => ?_⟩
    have h1 := hx g (by
      rw [ho]
      show g ∈ x.operands
      unfold Call.operands
      rw [hcal]
      simp) _ hv
    obtain ⟨fs, cs, h2, _, _⟩ := RV_fn.1 h1
    have hd := hn φ w undef [{ target := .fn (.func fn) cs, args := fs ++ x.args.map a.eval }] (by
      intro d hd
      simp only [List.mem_singleton] at hd
      subst hd
      exact ⟨_, _, fn, _, rfl, fun w => call_idle e1 _ w, e1⟩) (Kept.refl _ _) (Old.refl _ _) hm (RV_at.2 trivial)
    unfold Oper.wp
    have hr : (execOp a.eval o).run Tryz.prog w = .ok (.defer { target := .fn (.func fn) cs, args := fs ++ x.args.map a.eval }) w := by
      simp only [execOp, ho, resolve, hcal, h2, Deferred.ofValue]
      rfl
    rw [hr]
    exact hd
end Go.Proofs.YtkdjhegkcfmkoaaGreat.AM
namespace Go.Proofs.YtkdjhegkcfmkoaaGreat.AM
open Go.AM
set_option maxRecDepth 100000
/-- a way to call that is true of the model's -/
def ClOk (cl : Cl) : Prop := ∀ g l h (c : K2), cl g l h c = true → ∃ r h', c r h' = true ∧ h.nx.num ≤ h'.nx.num ∧
  ∀ (φ : Phi) (vs : Array Value) w (o : Oper) (a : Act) (next : Act → World → Prop) (Q : Exit → Act → World → Prop), Mem φ h w → RL φ l vs.toList →
    (∀ φ' w' r', Kept φ w φ' w' → Old h.nx.num φ φ' → Mem φ' h' w' → RV φ' r r' → next (a.put o.dst r') w') → o.upon Tryz.prog a next Q ((callFunc g vs).run Tryz.prog w)
variable {f : Operand → Operand} {E : List AV} {F : Fr} {o : Oper} {h : H} {c : K2} {cl : Cl}
theorem callV_ok (hcl : ClOk cl) {v : AV} {l : List AV} (hh : callV v l cl h c = true) : ∃ r h', c r h' = true ∧ h.nx.num ≤ h'.nx.num ∧
    ∀ (φ : Phi) (x : Value) (vs : Array Value) w (o : Oper) (a : Act) (next : Act → World → Prop) (Q : Exit → Act → World → Prop), Mem φ h w → RV φ v x → RL φ l vs.toList →
      (∀ φ' w' r', Kept φ w φ' w' → Old h.nx.num φ φ' → Mem φ' h' w' → RV φ' r r' → next (a.put o.dst r') w') →
      o.upon Tryz.prog a next Q ((do let d ← Deferred.ofValue x vs; invoke d.target d.args : Sem Next).run Tryz.prog w) := by
  obtain ⟨g, nf, fl, rfl, g1⟩ := onFn_spec hh
  have core : ∃ m, cl g m h c = true ∧ ∀ (φ : Phi) (fs cs vs : Array Value), fs.size = nf → RL φ fl (fs.toList ++ cs.toList) → RL φ l vs.toList → RL φ m ((fs ++ vs) ++ cs).toList := by
    cases nf with
    | zero =>
      have g1 : lappK l fl (fun l => tick cl g l h c) = true := g1
      rw [lappK_eq] at g1
      refine ⟨_, g1, fun φ fs cs vs h0 h1 h2 => ?_⟩
      have : fs = #[] := Array.size_eq_zero_iff.1 h0
      subst this
      simp only [Array.toList_append, List.nil_append] at h1 ⊢
      exact RL_append h2 h1
    | succ n =>
      have g1 : ltakeK fl (n + 1) (fun a => ldropK fl (n + 1) fun b => lappK l b fun l => lappK a l fun l => tick cl g l h c) = true := g1
      rw [ltakeK_eq, ldropK_eq, lappK_eq, lappK_eq] at g1
      refine ⟨_, g1, fun φ fs cs vs h0 h1 h2 => ?_⟩
      have t1 := RL_take h1 (n + 1)
      have t2 := RL_drop h1 (n + 1)
      rw [List.take_left' (by simpa using h0)] at t1
      rw [List.drop_left' (by simpa using h0)] at t2
      simp only [Array.toList_append, List.append_assoc]
      exact RL_append t1 (RL_append h2 t2)
  obtain ⟨m, g2, g3⟩ := core
  obtain ⟨r, h', k1, k2, k3⟩ := hcl g m h c g2
  refine ⟨r, h', k1, k2, fun φ x vs w o a next Q hm hv hl hn => ?_⟩
  obtain ⟨fs, cs, rfl, h2, h3⟩ := RV_fn.1 hv
  have := k3 φ ((fs ++ vs) ++ cs) w o a next Q hm (g3 φ fs cs vs h2 h3 hl) hn
  exact this
theorem l_call (hcl : ClOk cl) {x : Call} {g : Operand} (ho : o.op = .call x) (hg : x.callee = .value g) (hh : b_call (mapCall f x) cl E F h c = true) : Loud f E F o h c := by
  have e : (mapCall f x).callee = .value (f g) := by unfold mapCall; simp only [hg]
  have ea : (mapCall f x).args = x.args.map f := rfl
  unfold b_call at hh
  rw [e, ea] at hh
  obtain ⟨v, hv, g1⟩ := rd_spec (show rd E F (f g) (fun f' => rdL E F (x.args.map f).toList fun l => callV f' l cl h c) = true from hh)
  obtain ⟨vs, hvs, g2⟩ := rdL_spec g1
  obtain ⟨r, h', k1, k2, k3⟩ := callV_ok hcl g2
  refine ⟨r, h', k1, k2, fun φ a w next Q hm hx hn => ?_⟩
  have h1 := hx g (by
    rw [ho]
    show g ∈ x.operands
    unfold Call.operands
    rw [hg]
    simp) _ hv
  have h2 := args_ok ho hvs hx
  have := k3 φ (a.eval g) (x.args.map a.eval) w o a next Q hm h1 h2 (fun φ' w' r' q1 q2 q3 q4 => by
    have := hn φ' w' r' [] (by intro d hd; cases hd) q1 q2 q3 q4
    exact this)
  unfold Oper.wp
  have hr : execOp a.eval o = (do let d ← Deferred.ofValue (a.eval g) (x.args.map a.eval); invoke d.target d.args) := by
    simp only [execOp, ho, resolve, hg]
  rw [hr]
  exact this
end Go.Proofs.YtkdjhegkcfmkoaaGreat.AM
namespace Go.Proofs.YtkdjhegkcfmkoaaGreat.AM
open Go.AM
set_option maxRecDepth 100000
/-- a run comes to what it should -/
def Out (h h' : H) (φ : Phi) (w : World) (s : Sem Value) (r : AV) : Prop := ∃ φ' w' r', s.run Tryz.prog w = .ok r' w' ∧ Kept φ w φ' w' ∧ Old h.nx.num φ φ' ∧ Mem φ' h' w' ∧ RV φ' r r'
/-- what is appended: so many elements, these cells -/
structure App (t u ty : Nat) (i : TypeInfo) (el : Nat) (zv : Value) (xv : Value) (n : Nat) (news : List Value) (w : World) : Prop where
  nothing : n = 0 → ∀ base sLen sCap, sLen ≤ sCap → (Builtin.append_ #[t, u] ty #[.slice base sLen sCap, xv]).run Tryz.prog w = .ok (.slice base sLen sCap) w
  room : ∀ b off sLen sCap, sLen + n ≤ sCap → (∀ j, j < news.length → (w.cell? ⟨b, off + sLen * i.size + j, none⟩).isSome = true) → (∀ j, j < news.length → w.frozen? ⟨b, off + sLen * i.size + j, none⟩ = false) →
    (Builtin.append_ #[t, u] ty #[.slice (some ⟨b, off, none⟩) sLen sCap, xv]).run Tryz.prog w = .ok (.slice (some ⟨b, off, none⟩) (sLen + n) sCap) (w.setCells b (off + sLen * i.size) news)
  grow : ∀ base sLen sCap (olds : List Value), (Builtin.firstCells i.size sLen (.slice base sLen sCap)).run Tryz.prog w.drew = .ok olds.toArray w.drew → sCap < sLen + n → sLen + n ≤ 1000000 →
    (Builtin.append_ #[t, u] ty #[.slice base sLen sCap, xv]).run Tryz.prog w = .ok (.slice (some ⟨w.heap.size, 0, none⟩) (sLen + n) (grownCap w (sLen + n) sCap el))
      (w.drew.alloc (.cells ((olds ++ news).toArray ++ Builtin.zeroCells zv.cells (grownCap w (sLen + n) sCap el - (sLen + n))) el))
theorem fits {sCap m bytes : Nat} (hg : sCap < m) (hm : m ≤ 1000000) (hb : bytes ≤ 1000000) : Builtin.nextslicecap m sCap * bytes ≤ 281474976710656 := by
  have h1 : m * bytes ≤ 1000000 * 1000000 := Nat.mul_le_mul hm hb
  exact growslice_fits hg (by omega)
theorem app_src {t u ty el e : Nat} {z : List AV} {i : TypeInfo} {zv xv : Value} {n : Nat} {news : List Value} {w : World} (ht : ElemT t el e z i zv) (hs : Src Tryz.prog i.size u xv n news w) : App t u ty i el zv xv n news w where
  nothing := fun hn base sLen sCap hle => by
    subst hn
    have : news = [] := List.length_eq_zero_iff.1 (by rw [hs.newsLen, Nat.zero_mul])
    subst this
    exact run_append_nothing w t u ty el i ht.und ht.info base sLen sCap hle xv hs
  room := fun b off sLen sCap h1 h2 h3 => run_append_room_src w t u ty el i ht.und ht.info b off sLen sCap xv n news hs h1 h2 h3
  grow := fun base sLen sCap olds h1 h2 h3 => run_append_grow_src w t u ty el i zv ht.und ht.info ht.zero base sLen sCap olds h1 xv n news hs h2 (by omega) (fits h2 h3 ht.bytes)
theorem app_zeros {t u ty el e : Nat} {z : List AV} {i : TypeInfo} {zv : Value} {k kx : IntKind} {n : Nat} {w : World} (ht : ElemT t el e z i zv) (hu : Tryz.prog.underlying u = some (.int k)) (hn : n ≤ 100000) :
    App t u ty i el zv (.int kx (Int.ofNat n)) n (Builtin.zeroCells zv.cells n).toList w := by
  have hw : IntKind.i64.wrap (n : Int) = n := by rw [IntKind.wrap_i64]; omega
  have hneg : ¬ ((n : Int) < 0) := by omega
  have hmb : n * i.bytes ≤ 100000 * 1000000 := Nat.mul_le_mul hn ht.bytes
  have hbig : ¬ (281474976710656 < (n : Int) * (i.bytes : Int)) := by
    rw [← Int.natCast_mul]; omega
  have hpos := ht.pos
  have hsz := ht.size
  have hz0 : Builtin.zeroCells zv.cells 0 = #[] := Array.size_eq_zero_iff.1 (by rw [size_zeroCells, Nat.zero_mul])
  have hne : n ≠ 0 → ¬ (n * i.size = 0) := by
    intro hn0 h0
    rcases Nat.mul_eq_zero.1 h0 with h | h
    · exact hn0 h
    · omega
  refine ⟨fun h0 base sLen sCap hle => ?_, fun b off sLen sCap h1 h2 h3 => ?_, fun base sLen sCap olds h1 h2 h3 => ?_⟩
  · subst h0
    have hw0 : IntKind.i64.wrap 0 = 0 := by rw [IntKind.wrap_i64]; rfl
    cases base <;> simp [Builtin.append_, run_underlying ht.und, run_underlying hu, sizeOf, typeInfo, ht.info, asInt, asIntOf, hw0, hle, storeCells]
  · have hone : ∀ v ∈ (Builtin.zeroCells zv.cells n).toList, v.oneCell' = true := by
      exact one_made ht.one (by rw [ht.cells]; omega) _
    have hst := run_storeCells_cells (P := Tryz.prog) b (off + sLen * i.size) (Builtin.zeroCells zv.cells n).toList 0 w (by simpa using h2) (by simpa using h3) hone
    simp only [Nat.add_zero] at hst
    by_cases hn0 : n = 0
    · subst hn0
      have hw0 : IntKind.i64.wrap 0 = 0 := by rw [IntKind.wrap_i64]; rfl
      have h1' : sLen ≤ sCap := by omega
      rw [hz0] at hst ⊢
      simp [Builtin.append_, run_underlying ht.und, run_underlying hu, sizeOf, typeInfo, ht.info, asInt, asIntOf, hw0, h1', storeCells, World.setCells]
    · have hne' := hne hn0
      simp [Builtin.append_, run_underlying ht.und, run_underlying hu, sizeOf, typeInfo, zeroValue, ht.info, ht.zero, asInt, asIntOf, hw, hneg, hbig, h1, hne', Addr.add_lit, hst]
  · have hn' : ¬ (sLen + n ≤ sCap) := by omega
    have h63 : ¬ (9223372036854775807 < ((sLen : Int) + (n : Int))) := by omega
    have h48 : ¬ (281474976710656 < Builtin.nextslicecap (sLen + n) sCap * i.bytes) := by have := fits h2 h3 ht.bytes; omega
    by_cases hn0 : n = 0
    · subst hn0
      have hw0 : IntKind.i64.wrap 0 = 0 := by rw [IntKind.wrap_i64]; rfl
      have h63' : ¬ (9223372036854775807 < (sLen : Int)) := by omega
      simp only [Nat.add_zero] at hn' h48 ⊢
      rw [hz0]
      simp [Builtin.append_, run_underlying ht.und, run_underlying hu, sizeOf, typeInfo, zeroValue, ht.info, ht.zero, asInt, asIntOf, hw0, hn', h63', h48, Question.forced, h1, newRow, grownCap]
    · have hne' := hne hn0
      simp [Builtin.append_, run_underlying ht.und, run_underlying hu, sizeOf, typeInfo, zeroValue, ht.info, ht.zero, asInt, asIntOf, hw, hneg, hbig, hn', h63, h48, hne', Question.forced, h1, newRow, grownCap]
      congr 2
      apply Array.ext'
      simp
end Go.Proofs.YtkdjhegkcfmkoaaGreat.AM
