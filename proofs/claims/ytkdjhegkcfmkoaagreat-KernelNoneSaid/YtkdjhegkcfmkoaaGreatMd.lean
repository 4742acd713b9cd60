/- The abstract machine over this program: quiet operations stand to the model's, the second part. -/
import Derived.Test.YtkdjhegkcfmkoaaGreatMc
namespace Go.Proofs.YtkdjhegkcfmkoaaGreat.AM
open Go.AM
set_option maxRecDepth 100000
variable {f : Operand → Operand} {E : List AV} {F : Fr} {o : Oper} {h : H} {c : K2} {cl : Cl}
theorem RL_at {φ : Phi} {l : List AV} {vs : List Value} (hr : RL φ l vs) {i : Nat} {x : AV} (hx : l[i]? = some x) : ∃ v, vs[i]? = some v ∧ RV φ x v := by
  obtain ⟨h1, h2⟩ := RL_get.1 hr
  have hi : i < l.length := (List.getElem?_eq_some_iff.1 hx).1
  exact ⟨vs[i]'(by omega), List.getElem?_eq_getElem _, h2 i x _ hx (List.getElem?_eq_getElem _)⟩
theorem RL_drop {φ : Phi} {l : List AV} {vs : List Value} (hr : RL φ l vs) (n : Nat) : RL φ (l.drop n) (vs.drop n) := by
  obtain ⟨h1, h2⟩ := RL_get.1 hr
  exact RL_get.2 ⟨by simp [h1], fun i x v hx hv => h2 (n + i) x v (by simpa using hx) (by simpa using hv)⟩
theorem RL_take {φ : Phi} {l : List AV} {vs : List Value} (hr : RL φ l vs) (n : Nat) : RL φ (l.take n) (vs.take n) := by
  obtain ⟨h1, h2⟩ := RL_get.1 hr
  refine RL_get.2 ⟨by simp [h1], fun i x v hx hv => ?_⟩
  rw [List.getElem?_take] at hx hv
  split at hx
  · rename_i hi; rw [if_pos hi] at hv; exact h2 i x v hx hv
  · cases hx
theorem q_extract {x : Operand} {i : Nat} (ho : o.op = .extract x i) (hh : b_extract (f x) i cl E F h c = true) : Quiet f E F o h c := by
  obtain ⟨a, ha, hc⟩ := rd_spec hh
  obtain ⟨l, rfl, g⟩ := onTup_spec hc
  obtain ⟨v, hv, g⟩ := lnthK_spec g
  refine ⟨_, g, fun φ ρ w hx => ?_⟩
  have h1 := hx x (by simp [Op.operands, ho]) _ ha
  rw [RV] at h1
  obtain ⟨cs, h2, h3⟩ := h1
  obtain ⟨u, h4, h5⟩ := RL_at h3 hv
  refine ⟨u, ?_, h5⟩
  simp only [execOp, ho]
  refine run_value _ w _ ?_
  rw [h2]
  have : cs[i]? = some u := by rw [← Array.getElem?_toList]; exact h4
  simp [Instr.extract, this]
/-! ### types -/
theorem ldK_spec {t : Nat} {k : LK} (h : ldK t = k) (hk : k ≠ .no) : ∃ d i, Tryz.prog.underlying t = some d ∧ Tryz.prog.info? t = some i ∧ ((dAg d = true ∧ k = .row i.size) ∨ (dAg d = false ∧ k = .one)) := by
  unfold ldK at h
  cases hd : Tryz.prog.underlying t with
  | none => rw [hd] at h; exact absurd h.symm hk
  | some d =>
    cases hi : Tryz.prog.info? t with
    | none => rw [hd, hi] at h; exact absurd h.symm hk
    | some i =>
      rw [hd, hi] at h
      have h : (if dAg d = true then LK.row i.size else LK.one) = k := h
      refine ⟨d, i, rfl, rfl, ?_⟩
      cases ha : dAg d with
      | true => rw [ha] at h; exact Or.inl ⟨rfl, h.symm⟩
      | false => rw [ha] at h; exact Or.inr ⟨rfl, h.symm⟩
theorem run_isAgg {t : Nat} {d : TypeDesc} (hd : Tryz.prog.underlying t = some d) (w : World) : (isAgg t).run Tryz.prog w = .ok (dAg d) w := by
  unfold isAgg
  rw [Sem.run_bind, run_underlying hd]
  cases d <;> rfl
theorem run_typeInfo' {t : Nat} {i : TypeInfo} (hi : Tryz.prog.info? t = some i) (w : World) : (typeInfo t).run Tryz.prog w = .ok i w := by
  simp [typeInfo, hi]
theorem run_sizeOf' {t : Nat} {i : TypeInfo} (hi : Tryz.prog.info? t = some i) (w : World) : (sizeOf t).run Tryz.prog w = .ok i.size w := by
  simp [sizeOf, typeInfo, hi]
theorem tSz_some {t : Nat} {n : Nat} (h : tSz t = n) (hn : n ≠ 0) : ∃ i, Tryz.prog.info? t = some i ∧ i.size = n := by
  unfold tSz at h
  cases hi : Tryz.prog.info? t with
  | none => rw [hi] at h; exact absurd h.symm hn
  | some i => rw [hi] at h; exact ⟨i, rfl, h⟩
theorem partK_ok {t : Nat} {l : List AV} {o : Nat} {c : K1} (hh : partK (ldK t) l o c = true) :
    ∃ r, c r = true ∧ ∀ (φ : Phi) (cs : Array Value) w, RL φ l cs.toList → (∀ y ∈ cs.toList, y.oneCell' = true) → ∃ r', (part t cs o).run Tryz.prog w = .ok r' w ∧ RV φ r r' := by
  cases hk : ldK t with
  | no => rw [hk] at hh; cases hh
  | one =>
    rw [hk] at hh
    obtain ⟨d, i, hd, hi, hc⟩ := ldK_spec hk (by intro e; cases e)
    rcases hc with ⟨_, e⟩ | ⟨ha, _⟩
    · cases e
    obtain ⟨v, hv, g⟩ := lnthK_spec hh
    refine ⟨v, g, fun φ cs w hr h1 => ?_⟩
    obtain ⟨u, h4, h5⟩ := RL_at hr hv
    refine ⟨u, ?_, h5⟩
    have : cs[o]? = some u := by rw [← Array.getElem?_toList]; exact h4
    unfold part
    rw [Sem.run_bind, run_isAgg hd, ha]
    simp [this]
  | row n =>
    rw [hk] at hh
    obtain ⟨d, i, hd, hi, hc⟩ := ldK_spec hk (by intro e; cases e)
    rcases hc with ⟨ha, e⟩ | ⟨_, e⟩
    case inr => cases e
    injection e with e
    subst e
    have hh : subK l o i.size (fun l => c (.agg l)) = true := hh
    rw [subK_eq] at hh
    refine ⟨_, hh, fun φ cs w hr h1 => ⟨.agg (cs.extract o (o + i.size)), ?_, ?_⟩⟩
    · unfold part
      rw [Sem.run_bind, run_isAgg hd, ha]
      simp [run_sizeOf' hi]
    · rw [RV]
      refine ⟨_, rfl, ?_, ?_⟩
      · have : (cs.extract o (o + i.size)).toList = (cs.toList.drop o).take i.size := by simp [List.extract]
        rw [this]
        exact RL_take (RL_drop hr o) _
      · intro y hy
        refine h1 y ?_
        have : (cs.extract o (o + i.size)).toList = (cs.toList.drop o).take i.size := by simp [List.extract]
        rw [this] at hy
        exact List.mem_of_mem_drop (List.mem_of_mem_take hy)
theorem q_field {t : TypeId} {x : Operand} {i : Nat} (ho : o.op = .field t x i) (hh : b_field t (f x) i cl E F h c = true) : Quiet f E F o h c := by
  obtain ⟨a, ha, hc⟩ := rd_spec hh
  obtain ⟨l, rfl, g⟩ := onAgg_spec hc
  unfold fdK at g
  cases hd : tDesc t with
  | struct fs =>
    rw [hd] at g
    cases hf : fs[i]? with
    | none => simp only [hf] at g; cases g
    | some fd =>
      simp only [hf] at g
      have g : partK (ldK fd.type) l fd.offset (fun v => c v h) = true := g
      obtain ⟨r, h1, h2⟩ := partK_ok g
      refine ⟨r, h1, fun φ ρ w hx => ?_⟩
      have h3 := hx x (by simp [Op.operands, ho]) _ ha
      rw [RV] at h3
      obtain ⟨cs, h4, h5, h6⟩ := h3
      obtain ⟨r', h7, h8⟩ := h2 φ cs w h5 h6
      refine ⟨r', ?_, h8⟩
      simp only [execOp, ho]
      refine run_value _ w _ ?_
      unfold Instr.field
      rw [Sem.run_bind, run_underlying (tDesc_some hd (by intro e; cases e)), h4]
      simp only [Result.andThen_ok, hf, Sem.run_bind, asAgg, Sem.run_pure]
      exact h7
  | _ => rw [hd] at g; cases g
theorem add_eq (c d n : Nat) : (⟨c, d, none⟩ : Addr).add n = ⟨c, d + n, none⟩ := by
  unfold Addr.add; split <;> simp_all
theorem q_fieldAddr {t : TypeId} {x : Operand} {i : Nat} (ho : o.op = .fieldAddr t x i) (hh : b_fieldAddr t (f x) i cl E F h c = true) : Quiet f E F o h c := by
  obtain ⟨a, ha, hc⟩ := rd_spec hh
  obtain ⟨b, p, rfl, g⟩ := onPtr_spec hc
  unfold faK at g
  cases hd : tDesc t with
  | struct fs =>
    rw [hd] at g
    cases hf : fs[i]? with
    | none => simp only [hf] at g; cases g
    | some fd =>
      simp only [hf] at g
      by_cases hz : tSz fd.type = 0
      · rw [if_pos hz] at g; cases g
      · rw [if_neg hz] at g
        have g : forceN (p.add fd.offset) (fun o => c (.ptr b o) h) = true := g
        rw [forceN_eq] at g
        refine ⟨_, g, fun φ ρ w hx => ?_⟩
        have h3 := hx x (by simp [Op.operands, ho]) _ ha
        rw [RV] at h3
        obtain ⟨cc, d, m, h4, h5⟩ := h3
        refine ⟨.pointer (some ⟨cc, d + (p + fd.offset), none⟩), ?_, by rw [RV]; exact ⟨cc, d, m, h4, rfl⟩⟩
        obtain ⟨inf, hi, hs⟩ := tSz_some rfl hz
        simp only [execOp, ho]
        refine run_value _ w _ ?_
        unfold Instr.fieldAt
        rw [Sem.run_bind, run_underlying (tDesc_some hd (by intro e; cases e)), h5]
        have hs' : inf.size ≠ 0 := by rw [hs]; exact hz
        simp only [Result.andThen_ok, hf, Sem.run_bind, Instr.sureAddr, Sem.run_pure, Go.fieldPlace, run_sizeOf' hi, Sem.run_ite, if_neg hs', add_eq]
        rw [Nat.add_assoc]
  | _ => rw [hd] at g; cases g
theorem onNat_spec {v : AV} {k : Nat → Bool} (hh : onNat v k = true) : ∃ kd m, v = .int kd (Int.ofNat m) ∧ k m = true := by
  obtain ⟨kd, n, rfl, g⟩ := onInt_spec hh
  cases n with
  | ofNat m => exact ⟨kd, m, rfl, g⟩
  | negSucc m => cases g
theorem iaK_arr {t n e : Nat} (h : iaK t = .arr n e) : ∃ el i, Tryz.prog.underlying t = some (.array n el) ∧ Tryz.prog.info? el = some i ∧ i.size = e ∧ e ≠ 0 := by
  unfold iaK at h
  cases hd : tDesc t with
  | array m el =>
    rw [hd] at h
    by_cases hz : tSz el = 0
    · simp only [if_pos hz] at h; cases h
    · simp only [if_neg hz] at h
      injection h with h1 h2
      subst h1; subst h2
      obtain ⟨i, hi, hs⟩ := tSz_some rfl hz
      exact ⟨el, i, tDesc_some hd (by intro e; cases e), hi, hs, hz⟩
  | slice el =>
    rw [hd] at h
    by_cases hz : tSz el = 0
    · simp only [if_pos hz] at h; cases h
    · simp only [if_neg hz] at h; cases h
  | _ => rw [hd] at h; cases h
theorem iaK_sl {t e : Nat} (h : iaK t = .sl e) : ∃ el i, Tryz.prog.underlying t = some (.slice el) ∧ Tryz.prog.info? el = some i ∧ i.size = e ∧ e ≠ 0 := by
  unfold iaK at h
  cases hd : tDesc t with
  | array m el =>
    rw [hd] at h
    by_cases hz : tSz el = 0
    · simp only [if_pos hz] at h; cases h
    · simp only [if_neg hz] at h; cases h
  | slice el =>
    rw [hd] at h
    by_cases hz : tSz el = 0
    · simp only [if_pos hz] at h; cases h
    · simp only [if_neg hz] at h
      injection h with h2
      subst h2
      obtain ⟨i, hi, hs⟩ := tSz_some rfl hz
      exact ⟨el, i, tDesc_some hd (by intro e; cases e), hi, hs, hz⟩
  | _ => rw [hd] at h; cases h
theorem RV_sl {φ : Phi} {b : Nm} {o n : Nat} {k : Option Nat} {e : Nat} {v : Value} (h : RV φ (.at (.sl b o n k e)) v) : ∃ c d m kk, φ b = some (c, d, m) ∧ v = .slice (some ⟨c, d + o, none⟩) n kk ∧ n ≤ kk := by
  rw [RV] at h
  cases k with
  | none => obtain ⟨c, d, m, k, h1, h2, h3, _⟩ := h; exact ⟨c, d, m, k, h1, h2, h3⟩
  | some k => obtain ⟨c, d, m, h1, h2, h3⟩ := h; exact ⟨c, d, m, k, h1, h2, h3⟩
theorem q_indexAddr {t : TypeId} {x y : Operand} (ho : o.op = .indexAddr t x y) (hh : b_indexAddr t (f x) (f y) cl E F h c = true) : Quiet f E F o h c := by
  obtain ⟨a, ha, hc⟩ := rd_spec hh
  obtain ⟨i', hi', hc⟩ := rd_spec hc
  obtain ⟨kd, i, rfl, g⟩ := onNat_spec hc
  clear hc hh
  cases hk : iaK t with
  | no => rw [hk] at g; cases g
  | arr n e =>
    rw [hk] at g
    obtain ⟨b, p, rfl, g2⟩ := onPtr_spec g
    obtain ⟨el, inf, hu, hin, hs, hz⟩ := iaK_arr hk
    cases hb : Nat.ble i.succ n with
    | false => rw [hb] at g2; cases g2
    | true =>
      rw [hb] at g2
      have hlt : i < n := (ble_iff _ _).1 hb
      simp only [forceN_eq] at g2
      refine ⟨_, g2, fun φ ρ w hx => ?_⟩
      have h3 := hx x (by simp [Op.operands, ho]) _ ha
      have h4 := hx y (by simp [Op.operands, ho]) _ hi'
      rw [RV_int] at h4
      obtain ⟨cc, d, m, h5, h6⟩ := RV_ptr.1 h3
      refine ⟨.pointer (some ⟨cc, d + (p + i * e), none⟩), ?_, by rw [RV]; exact ⟨cc, d, m, h5, rfl⟩⟩
      simp only [execOp, ho]
      refine run_value _ w _ ?_
      have hc : (0 : Int) ≤ Int.ofNat i ∧ (Int.ofNat i : Int) < (n : Int) := by simp only [Int.ofNat_eq_natCast]; omega
      unfold Instr.indexAt
      rw [h6, h4]
      simp only [asIntOf, Sem.run_bind, Sem.run_pure, Result.andThen_ok, run_underlying hu, Instr.sureAddr, Sem.run_ite, if_pos hc, run_sizeOf' hin, add_eq, hs]
      rw [show (Int.ofNat i).toNat = i from rfl, Nat.add_assoc]
  | sl e =>
    rw [hk] at g
    obtain ⟨el, inf, hu, hin, hs, hz⟩ := iaK_sl hk
    rcases onSl_spec g with ⟨b, p, n, k, e', rfl, g1⟩ | ⟨_, g1⟩ | ⟨_, g1⟩
    · cases he : e.beq e' with
      | false => rw [he] at g1; cases g1
      | true =>
        rw [he] at g1
        cases hb : Nat.ble i.succ n with
        | false => rw [hb] at g1; cases g1
        | true =>
          rw [hb] at g1
          have hlt : i < n := (ble_iff _ _).1 hb
          simp only [forceN_eq] at g1
          refine ⟨_, g1, fun φ ρ w hx => ?_⟩
          have h3 := hx x (by simp [Op.operands, ho]) _ ha
          have h4 := hx y (by simp [Op.operands, ho]) _ hi'
          obtain ⟨cc, d, m, kk, h5, h6, _⟩ := RV_sl h3
          rw [RV] at h4
          refine ⟨.pointer (some ⟨cc, d + (p + i * e), none⟩), ?_, by rw [RV]; exact ⟨cc, d, m, h5, rfl⟩⟩
          simp only [execOp, ho]
          refine run_value _ w _ ?_
          have hc : (0 : Int) ≤ Int.ofNat i ∧ (Int.ofNat i : Int) < (n : Int) := by simp only [Int.ofNat_eq_natCast]; omega
          unfold Instr.indexAt
          rw [h6, h4]
          simp only [asIntOf, Sem.run_bind, Sem.run_pure, Result.andThen_ok, run_underlying hu, Sem.run_ite, if_pos hc, run_sizeOf' hin, add_eq, hs]
          rw [show (Int.ofNat i).toNat = i from rfl, Nat.add_assoc]
    · cases g1
    · cases g1
theorem ixK_str {t : Nat} (h : ixK t = .str) : Tryz.prog.underlying t = some .string := by
  unfold ixK at h
  cases hd : tDesc t with
  | string => exact tDesc_some hd (by intro e; cases e)
  | _ => rw [hd] at h; cases h
theorem ixK_arr {t n e : Nat} {k : LK} (h : ixK t = .arr n e k) : ∃ el, Tryz.prog.underlying t = some (.array n el) ∧ tSz el = e ∧ ldK el = k := by
  unfold ixK at h
  cases hd : tDesc t with
  | array m el =>
    rw [hd] at h
    injection h with h1 h2 h3
    subst h1
    exact ⟨el, tDesc_some hd (by intro e; cases e), h2, h3⟩
  | _ => rw [hd] at h; cases h
theorem strL_get {s : ByteArray} {l : List Nat} {i a : Nat} (h : strL s = l) (hi : l[i]? = some a) : ∃ b : UInt8, s[i]? = some b ∧ b.toNat = a := by
  subst h
  unfold strL at hi
  rw [List.getElem?_map] at hi
  cases hb : s.data.toList[i]? with
  | none => rw [hb] at hi; cases hi
  | some b =>
    rw [hb] at hi
    refine ⟨b, ?_, by injection hi⟩
    have hlt : i < s.data.toList.length := (List.getElem?_eq_some_iff.1 hb).1
    have hlt2 : i < s.size := by rw [Array.length_toList] at hlt; exact hlt
    rw [getElem?_pos s i hlt2]
    have := (List.getElem?_eq_some_iff.1 hb).2
    rw [← this]; rfl
theorem q_index {t : TypeId} {x y : Operand} (ho : o.op = .index t x y) (hh : b_index t (f x) (f y) cl E F h c = true) : Quiet f E F o h c := by
  obtain ⟨a, ha, hc⟩ := rd_spec hh
  obtain ⟨i', hi', hc⟩ := rd_spec hc
  obtain ⟨kd, i, rfl, g⟩ := onNat_spec hc
  clear hc hh
  cases hk : ixK t with
  | no => rw [hk] at g; cases g
  | str =>
    rw [hk] at g
    obtain ⟨n, l, rfl, g2⟩ := onStr_spec g
    obtain ⟨v, hv, g3⟩ := snth_spec g2
    refine ⟨_, g3, fun φ ρ w hx => ?_⟩
    have h3 := hx x (by simp [Op.operands, ho]) _ ha
    have h4 := hx y (by simp [Op.operands, ho]) _ hi'
    rw [RV_int] at h4
    obtain ⟨s, h5, h6, _⟩ := RV_at.1 h3
    obtain ⟨b, h7, h8⟩ := strL_get h6 hv
    refine ⟨.int .u8 (b.toNat : Int), ?_, by rw [RV, ← h8]; rfl⟩
    simp only [execOp, ho]
    refine run_value _ w _ ?_
    unfold Instr.index
    rw [h5, h4]
    have hc : (0 : Int) ≤ Int.ofNat i := by simp only [Int.ofNat_eq_natCast]; omega
    simp only [asIntOf, Sem.run_bind, Sem.run_pure, Result.andThen_ok, run_underlying (ixK_str hk), if_pos hc]
    rw [show (Int.ofNat i).toNat = i from rfl, h7]
    rfl
  | arr n e k =>
    rw [hk] at g
    obtain ⟨l, rfl, g2⟩ := onAgg_spec g
    obtain ⟨el, hu, he, hl⟩ := ixK_arr hk
    cases hb : Nat.ble i.succ n with
    | false => rw [hb] at g2; cases g2
    | true =>
      rw [hb] at g2
      have hlt : i < n := (ble_iff _ _).1 hb
      subst hl
      have g3 : partK (ldK el) l (i.mul e) (fun v => c v h) = true := g2
      have hne : ldK el ≠ .no := by intro e0; rw [e0] at g3; cases g3
      obtain ⟨d, inf, hd, hin, _⟩ := ldK_spec rfl hne
      obtain ⟨r, h1, h2⟩ := partK_ok g3
      refine ⟨r, h1, fun φ ρ w hx => ?_⟩
      have h3 := hx x (by simp [Op.operands, ho]) _ ha
      have h4 := hx y (by simp [Op.operands, ho]) _ hi'
      rw [RV_int] at h4
      obtain ⟨cs, h5, h6, h7⟩ := RV_agg.1 h3
      obtain ⟨r', h8, h9⟩ := h2 φ cs w h6 h7
      refine ⟨r', ?_, h9⟩
      simp only [execOp, ho]
      refine run_value _ w _ ?_
      have hc : (0 : Int) ≤ Int.ofNat i ∧ (Int.ofNat i : Int) < (n : Int) := by simp only [Int.ofNat_eq_natCast]; omega
      have hsz : inf.size = e := by rw [← he]; unfold tSz; rw [hin]
      unfold Instr.index
      rw [h5, h4]
      simp only [asIntOf, Sem.run_bind, Sem.run_pure, Result.andThen_ok, run_underlying hu, Sem.run_ite, if_pos hc, run_sizeOf' hin, hsz]
      exact h8
end Go.Proofs.YtkdjhegkcfmkoaaGreat.AM
namespace Go.Proofs.YtkdjhegkcfmkoaaGreat.AM
open Go.AM
set_option maxRecDepth 100000
variable {f : Operand → Operand} {E : List AV} {F : Fr} {o : Oper} {h : H} {c : K2} {cl : Cl}
theorem exec_builtin {ρ : Operand → Value} {b : Builtin} {x : Call} (ho : o.op = .call x) (hb : x.callee = .builtin b) : execOp ρ o = builtin b x.argTypes o.type (x.args.map fun | .const _ => true | _ => false) (x.args.map ρ) := by
  simp only [execOp, ho, resolve, hb]
  rfl
theorem args_ok {x : Call} {ρ : Operand → Value} {φ : Phi} {vs : List AV} (ho : o.op = .call x) (hv : (x.args.map f).toList.map (rdA E F) = vs.map some) (hx : ∀ y ∈ o.op.operands, Rd f E F φ ρ y) : RL φ vs (x.args.map ρ).toList := by
  rw [Array.toList_map] at hv ⊢
  refine RL_of_map hv (fun y hy => hx y ?_)
  rw [ho]
  show y ∈ x.operands
  unfold Call.operands
  exact Array.mem_append.2 (Or.inr (by simpa using hy))
theorem arr0 {α : Type} {a : Array α} {x : α} {l : List α} (h : a.toList = x :: l) : a[0]? = some x := by rw [← Array.getElem?_toList, h]; rfl
theorem arr1 {α : Type} {a : Array α} {x y : α} {l : List α} (h : a.toList = x :: y :: l) : a[1]? = some y := by rw [← Array.getElem?_toList, h]; rfl
theorem list2 {φ : Phi} {a b : AV} {vs : List Value} (h : RL φ [a, b] vs) : ∃ u v, vs = [u, v] ∧ RV φ a u ∧ RV φ b v := by
  rw [RL_cons] at h
  obtain ⟨u, r, rfl, h1, h2⟩ := h
  rw [RL_cons] at h2
  obtain ⟨v, r, rfl, h3, h4⟩ := h2
  rw [RL_nil] at h4
  subst h4
  exact ⟨u, v, rfl, h1, h3⟩
theorem q_max {x : Call} (ho : o.op = .call x) (hb : x.callee = .builtin .max) (hh : (rdL E F (x.args.map f).toList fun l => u_max l h c) = true) : Quiet f E F o h c := by
  obtain ⟨vs, hv, g⟩ := rdL_spec hh
  match vs, hv, g with
  | [], _, g => cases g
  | [a], _, g => cases g
  | a :: b :: d :: r, _, g => cases g
  | [a, b], hv, g =>
    have g : AV.onInt a (fun k n => AV.onInt b fun _ m => Bool.rec (c (.int k n) h) (c (.int k m) h) (leI n m)) = true := g
    obtain ⟨k, n, rfl, g1⟩ := onInt_spec g
    obtain ⟨k', m, rfl, g2⟩ := onInt_spec g1
    rw [leI_eq] at g2
    refine ⟨.int k (if n ≤ m then m else n), ?_, fun φ ρ w hx => ⟨.int k (if n ≤ m then m else n), ?_, by rw [RV_int]⟩⟩
    · by_cases hle : n ≤ m
      · rw [decide_eq_true hle] at g2; rw [if_pos hle]; exact g2
      · rw [decide_eq_false hle] at g2; rw [if_neg hle]; exact g2
    · obtain ⟨u, v, h1, h2, h3⟩ := list2 (args_ok ho hv hx)
      rw [RV_int] at h2 h3
      rw [exec_builtin ho hb]
      refine run_value _ w _ ?_
      unfold Builtin.max_
      rw [h1, h2, h3]
      simp only [List.foldlM, Builtin.max2, Sem.run_bind, Sem.run_pure, Result.andThen_ok]
      by_cases hle : n ≤ m
      · rw [if_pos hle]
        by_cases hlt : m > n
        · rw [if_pos hlt]
        · rw [if_neg hlt, show n = m by omega]
      · rw [if_neg hle, if_neg (by omega)]
theorem q_min {x : Call} (ho : o.op = .call x) (hb : x.callee = .builtin .min) (hh : (rdL E F (x.args.map f).toList fun l => u_min l h c) = true) : Quiet f E F o h c := by
  obtain ⟨vs, hv, g⟩ := rdL_spec hh
  match vs, hv, g with
  | [], _, g => cases g
  | [a], _, g => cases g
  | a :: b :: d :: r, _, g => cases g
  | [a, b], hv, g =>
    have g : AV.onInt a (fun k n => AV.onInt b fun _ m => Bool.rec (c (.int k m) h) (c (.int k n) h) (leI n m)) = true := g
    obtain ⟨k, n, rfl, g1⟩ := onInt_spec g
    obtain ⟨k', m, rfl, g2⟩ := onInt_spec g1
    rw [leI_eq] at g2
    refine ⟨.int k (if n ≤ m then n else m), ?_, fun φ ρ w hx => ⟨.int k (if n ≤ m then n else m), ?_, by rw [RV_int]⟩⟩
    · by_cases hle : n ≤ m
      · rw [decide_eq_true hle] at g2; rw [if_pos hle]; exact g2
      · rw [decide_eq_false hle] at g2; rw [if_neg hle]; exact g2
    · obtain ⟨u, v, h1, h2, h3⟩ := list2 (args_ok ho hv hx)
      rw [RV_int] at h2 h3
      rw [exec_builtin ho hb]
      refine run_value _ w _ ?_
      unfold Builtin.min_
      rw [h1, h2, h3]
      simp only [List.foldlM, Builtin.min2, Sem.run_bind, Sem.run_pure, Result.andThen_ok]
      by_cases hle : n ≤ m
      · rw [if_pos hle, if_neg (by omega)]
      · rw [if_neg hle, if_pos (by omega)]
theorem lnK_spec {t : Nat} {k : NK} (h : lnK t = k) (hk : k ≠ .no) : (Tryz.prog.underlying t = some .string ∧ k = .str) ∨ (∃ e, Tryz.prog.underlying t = some (.slice e) ∧ k = .sl) ∨ (∃ n e, Tryz.prog.underlying t = some (.array n e) ∧ k = .fix n) ∨ (∃ a n e, Tryz.prog.underlying t = some (.pointer a) ∧ Tryz.prog.underlying a = some (.array n e) ∧ k = .fix n) := by
  unfold lnK at h
  cases hd : tDesc t with
  | string => rw [hd] at h; exact Or.inl ⟨tDesc_some hd (by intro e; cases e), h.symm⟩
  | slice e => rw [hd] at h; exact Or.inr (Or.inl ⟨e, tDesc_some hd (by intro e; cases e), h.symm⟩)
  | array n e => rw [hd] at h; exact Or.inr (Or.inr (Or.inl ⟨n, e, tDesc_some hd (by intro e; cases e), h.symm⟩))
  | pointer a =>
    rw [hd] at h
    cases hd2 : tDesc a with
    | array n e => simp only [hd2] at h; exact Or.inr (Or.inr (Or.inr ⟨a, n, e, tDesc_some hd (by intro e; cases e), tDesc_some hd2 (by intro e; cases e), h.symm⟩))
    | _ => simp only [hd2] at h; exact absurd h.symm hk
  | _ => rw [hd] at h; exact absurd h.symm hk
theorem q_len {x : Call} (ho : o.op = .call x) (hb : x.callee = .builtin .len) (hh : (rdL E F (x.args.map f).toList fun l => u_len x.argTypes.toList l h c) = true) : Quiet f E F o h c := by
  obtain ⟨vs, hv, g⟩ := rdL_spec hh
  cases ht : x.argTypes.toList with
  | nil => rw [ht] at g; cases g
  | cons t ts =>
    rw [ht] at g
    cases vs with
    | nil => cases g
    | cons a r =>
      have hr0 : r = [] := by
        cases r with
        | nil => rfl
        | cons b m => cases g
      subst hr0
      have g : (NK.rec false (AV.onStr a fun n _ => c (.int .i64 (Int.ofNat n)) h)
        (AV.onSl a (fun _ _ n _ _ => c (.int .i64 (Int.ofNat n)) h) (c (.int .i64 (Int.ofNat 0)) h) (c (.int .i64 (Int.ofNat 0)) h)) (fun n => c (.int .i64 (Int.ofNat n)) h) (lnK t) : Bool) = true := g
      have key : ∀ n : Nat, c (.int .i64 (Int.ofNat n)) h = true → (∀ φ u w, RV φ a u → ∀ ys : Array Value, ys[0]? = some u → (Builtin.len_ x.argTypes o.type ys).run Tryz.prog w = .ok (goInt n) w) → Quiet f E F o h c := by
        intro n hn hk
        refine ⟨_, hn, fun φ ρ w hx => ⟨goInt n, ?_, by rw [RV_int]; rfl⟩⟩
        have hr := args_ok ho hv hx
        rw [RL_cons] at hr
        obtain ⟨u, r', h1, h2, _⟩ := hr
        rw [exec_builtin ho hb]
        exact run_value _ w _ (hk φ u w h2 _ (arr0 h1))
      have ht0 : x.argTypes[0]? = some t := arr0 ht
      cases hk : lnK t with
      | no => rw [hk] at g; cases g
      | str =>
        rw [hk] at g
        obtain ⟨n, l, rfl, g1⟩ := onStr_spec g
        rcases lnK_spec hk (by intro e; cases e) with ⟨hu, _⟩ | ⟨_, _, e⟩ | ⟨_, _, _, e⟩ | ⟨_, _, _, _, _, e⟩
        · refine key n g1 (fun φ u w hu1 ys has => ?_)
          obtain ⟨s, rfl, _, hs⟩ := RV_at.1 hu1
          simp [Builtin.len_, ht0, has, run_underlying hu, hs]
        · cases e
        · cases e
        · cases e
      | sl =>
        rw [hk] at g
        rcases lnK_spec hk (by intro e; cases e) with ⟨_, e⟩ | ⟨_, hu, _⟩ | ⟨_, _, _, e⟩ | ⟨_, _, _, _, _, e⟩
        · cases e
        · rcases onSl_spec g with ⟨b, p, n, k, e', rfl, g1⟩ | ⟨rfl, g1⟩ | ⟨rfl, g1⟩
          · refine key n g1 (fun φ u w hu1 ys has => ?_)
            obtain ⟨_, _, _, _, _, rfl, _⟩ := RV_sl hu1
            simp [Builtin.len_, ht0, has, run_underlying hu]
          · refine key 0 g1 (fun φ u w hu1 ys has => ?_)
            obtain rfl : u = .slice none 0 0 := RV_at.1 hu1
            simp [Builtin.len_, ht0, has, run_underlying hu]
          · refine key 0 g1 (fun φ u w hu1 ys has => ?_)
            obtain ⟨_, _, rfl⟩ : ∃ a k, u = .slice a 0 k := RV_at.1 hu1
            simp [Builtin.len_, ht0, has, run_underlying hu]
        · cases e
        · cases e
      | fix n =>
        rw [hk] at g
        refine key n g (fun φ u w hu1 ys has => ?_)
        rcases lnK_spec hk (by intro e; cases e) with ⟨_, e⟩ | ⟨_, _, e⟩ | ⟨_, _, hu, e⟩ | ⟨_, _, _, hu, hu2, e⟩
        · cases e
        · cases e
        · injection e with e; subst e; simp [Builtin.len_, ht0, has, run_underlying hu]
        · injection e with e; subst e; simp [Builtin.len_, ht0, has, run_underlying hu, run_underlying hu2]
end Go.Proofs.YtkdjhegkcfmkoaaGreat.AM
namespace Go.Proofs.YtkdjhegkcfmkoaaGreat.AM
open Go.AM
set_option maxRecDepth 100000
variable {f : Operand → Operand} {E : List AV} {F : Fr} {o : Oper} {h : H} {c : K2} {cl : Cl}
/-- each is the value of one cell -/
def One (vs : List Value) : Prop := ∀ y ∈ vs, y.oneCell' = true
theorem RL_absV (φ : Phi) (l : List Value) : RL φ (l.map absV) l := by
  induction l with
  | nil => rw [List.map_nil, RL_nil]
  | cons a t ih => rw [List.map_cons, RL_cons]; exact ⟨_, _, rfl, absV_ok φ a, ih⟩
theorem RL_absC (φ : Phi) (z : Value) : RL φ (absC z) z.cells.toList := by
  unfold absC
  split
  · exact RL_absV φ _
  · rename_i hz
    have : z.cells = #[z] := by unfold Value.cells; split
                                · exact absurd rfl (hz _)
                                · rfl
    rw [this]
    rw [RL_cons]; exact ⟨_, _, rfl, absV_ok φ z, by rw [RL_nil]⟩
theorem one_cells {z : Value} (h : z.oneCell' = true) : z.cells = #[z] := by cases z <;> first | rfl | cases h
theorem zvK_spec {t : Nat} {k : LK} (hk : zvK t = some k) : ∃ i z, Tryz.prog.info? t = some i ∧ i.zero = some z ∧ (∀ φ, RL φ (zeroC t) z.cells.toList) ∧ One z.cells.toList ∧ ((∃ cs, z = .agg cs ∧ k = .row cs.size) ∨ (z.oneCell' = true ∧ k = .one)) := by
  unfold zvK at hk
  cases hi : Tryz.prog.info? t with
  | none => rw [hi] at hk; cases hk
  | some i =>
    rw [hi] at hk
    have hz0 : ∀ z, i.zero = some z → ∀ φ, RL φ (zeroC t) z.cells.toList := fun z hz φ => by
      have : zeroC t = absC z := by unfold zeroC; rw [hi]; simp only [hz]
      rw [this]; exact RL_absC φ z
    cases hz : i.zero with
    | none => simp only [hz] at hk; cases hk
    | some z =>
      refine ⟨i, z, rfl, hz, hz0 z hz, ?_⟩
      simp only [hz] at hk
      cases z with
      | agg cs =>
        cases hc : cs.all (fun v => v.oneCell') with
        | false => simp only [hc] at hk; cases hk
        | true =>
          simp only [hc] at hk
          injection hk with hk
          refine ⟨?_, Or.inl ⟨cs, rfl, hk.symm⟩⟩
          intro y hy
          exact Array.all_eq_true_iff_forall_mem.1 hc y (by simpa [Value.cells] using hy)
      | tuple vs => cases hk
      | _ =>
        injection hk with hk
        exact ⟨by intro y hy; simp [Value.cells] at hy; subst hy; rfl, Or.inr ⟨rfl, hk.symm⟩⟩
theorem run_zeroValue' {t : Nat} {i : TypeInfo} {z : Value} (hi : Tryz.prog.info? t = some i) (hz : i.zero = some z) (w : World) : (zeroValue t).run Tryz.prog w = .ok z w := by
  simp [zeroValue, typeInfo, hi, hz]
theorem zeroV_ok {t : Nat} {k : K1} (hh : zeroV t k = true) : ∃ r, k r = true ∧ ∃ z, (∀ w, (zeroValue t).run Tryz.prog w = .ok z w) ∧ ∀ φ, RV φ r z := by
  unfold zeroV at hh
  cases hk : zvK t with
  | none => rw [hk] at hh; cases hh
  | some kd =>
    rw [hk] at hh
    have hh : forceL (zeroC t) (fun l => kindV kd l k) = true := hh
    rw [forceL_eq] at hh
    obtain ⟨i, z, hi, hz, hr, h1, h2⟩ := zvK_spec hk
    rcases h2 with ⟨cs, rfl, rfl⟩ | ⟨h2, rfl⟩
    · exact ⟨_, hh, .agg cs, fun w => run_zeroValue' hi hz w, fun φ => RV_agg.2 ⟨cs, rfl, hr φ, h1⟩⟩
    · obtain ⟨v, hv, g⟩ := lnthK_spec hh
      refine ⟨v, g, z, fun w => run_zeroValue' hi hz w, fun φ => ?_⟩
      have h3 := hr φ
      rw [one_cells h2] at h3
      obtain ⟨u, hu, hvu⟩ := RL_at h3 hv
      simp at hu
      rw [hu]; exact hvu
theorem mkI_spec {t : Nat} (h : mkI t = true) : ∃ d, Tryz.prog.underlying t = some d ∧ ∀ m, d ≠ .interface m := by
  unfold mkI at h
  cases hd : Tryz.prog.underlying t with
  | none => rw [hd] at h; cases h
  | some d => rw [hd] at h; exact ⟨d, rfl, by rintro m rfl; cases h⟩
theorem run_ta_nil {t s : Nat} {d : TypeDesc} {z : Value} (hd : Tryz.prog.underlying t = some d) (w : World) (hz : ∀ w, (zeroValue t).run Tryz.prog w = .ok z w) :
    (Instr.typeAssert .nilIface s t true).run Tryz.prog w = .ok (.tuple #[z, .bool false]) w := by
  unfold Instr.typeAssert
  rw [Sem.run_bind, run_underlying hd]
  cases d <;> simp [hz]
theorem run_ta_no {t s u : Nat} {d : TypeDesc} {y z : Value} (hd : Tryz.prog.underlying t = some d) (hi : ∀ m, d ≠ .interface m) (hut : u ≠ t) (w : World) (hz : ∀ w, (zeroValue t).run Tryz.prog w = .ok z w) :
    (Instr.typeAssert (.iface u y) s t true).run Tryz.prog w = .ok (.tuple #[z, .bool false]) w := by
  unfold Instr.typeAssert
  rw [Sem.run_bind, run_underlying hd]
  cases d <;> first | exact absurd rfl (hi _) | simp [hz, hut]
theorem run_ta_yes {t s : Nat} {d : TypeDesc} {y : Value} (ok : Bool) (hd : Tryz.prog.underlying t = some d) (hi : ∀ m, d ≠ .interface m) (w : World) :
    (Instr.typeAssert (.iface t y) s t ok).run Tryz.prog w = .ok (if ok then .tuple #[y, .bool true] else y) w := by
  unfold Instr.typeAssert
  rw [Sem.run_bind, run_underlying hd]
  cases d <;> first | exact absurd rfl (hi _) | (cases ok <;> simp)
theorem taNo_ok {t : Nat} {ok : Bool} (hh : taNo t ok h c = true) : ok = true ∧ ∃ r, c r h = true ∧ ∃ z, (∀ w, (zeroValue t).run Tryz.prog w = .ok z w) ∧ ∀ φ, RV φ r (.tuple #[z, .bool false]) := by
  cases ok with
  | false => cases hh
  | true =>
    have hh : zeroV t (fun z => c (.tup [z, .bool false]) h) = true := hh
    obtain ⟨r, h1, z, h2, h3⟩ := zeroV_ok hh
    refine ⟨rfl, _, h1, z, h2, fun φ => RV_tup.2 ⟨_, rfl, ?_⟩⟩
    rw [RL_cons]; refine ⟨_, _, rfl, h3 φ, ?_⟩
    rw [RL_cons]; exact ⟨_, _, rfl, by rw [RV_bool], by rw [RL_nil]⟩
theorem q_typeAssert {x : Operand} {s t : TypeId} {ok : Bool} (ho : o.op = .typeAssert x s t ok) (hh : b_typeAssert (f x) s t ok cl E F h c = true) : Quiet f E F o h c := by
  obtain ⟨a, ha, hc⟩ := rd_spec hh
  cases hm : mkI t with
  | false => rw [hm] at hc; cases hc
  | true =>
    rw [hm] at hc
    have g : taV a t ok h c = true := hc
    obtain ⟨d, hd, hi⟩ := mkI_spec hm
    cases a with
    | «at» z => cases z with
      | nili =>
        obtain ⟨rfl, r, h1, z, h2, h3⟩ := taNo_ok g
        refine ⟨r, h1, fun φ ρ w hx => ⟨_, ?_, h3 φ⟩⟩
        have h4 : ρ x = .nilIface := RV_at.1 (hx x (by simp [Op.operands, ho]) _ ha)
        simp only [execOp, ho]
        refine run_value _ w _ ?_
        rw [h4]; exact run_ta_nil hd w h2
      | _ => cases g
    | row gg l => cases gg with
      | ifc u =>
        obtain ⟨v, hv, g1⟩ := lnthK_spec (show lnthK l 0 (fun v => Bool.rec (taNo t ok h c) (Bool.rec (c v h) (c (.tup [v, .bool true]) h) ok) (u.beq t)) = true from g)
        have hval : ∀ φ (ρ : Operand → Value), (∀ y ∈ o.op.operands, Rd f E F φ ρ y) → ∃ y, ρ x = .iface u y ∧ RV φ v y := fun φ ρ hx => by
          obtain ⟨y, h1, h2⟩ := RV_ifc.1 (hx x (by simp [Op.operands, ho]) _ ha)
          obtain ⟨w, h3, h4⟩ := RL_at h2 hv
          simp at h3
          subst h3
          exact ⟨y, h1, h4⟩
        cases hb : u.beq t with
        | false =>
          rw [hb] at g1
          have hne : u ≠ t := fun e => by rw [(beq_iff u t).2 e] at hb; cases hb
          obtain ⟨rfl, r, h1, z, h2, h3⟩ := taNo_ok g1
          refine ⟨r, h1, fun φ ρ w hx => ⟨_, ?_, h3 φ⟩⟩
          obtain ⟨y, h4, _⟩ := hval φ ρ hx
          simp only [execOp, ho]
          refine run_value _ w _ ?_
          rw [h4]; exact run_ta_no hd hi hne w h2
        | true =>
          rw [hb] at g1
          obtain rfl := (beq_iff u t).1 hb
          cases ok with
          | false =>
            refine ⟨v, g1, fun φ ρ w hx => ?_⟩
            obtain ⟨y, h4, h5⟩ := hval φ ρ hx
            refine ⟨y, ?_, h5⟩
            simp only [execOp, ho]
            refine run_value _ w _ ?_
            rw [h4]; exact run_ta_yes false hd hi w
          | true =>
            refine ⟨_, g1, fun φ ρ w hx => ?_⟩
            obtain ⟨y, h4, h5⟩ := hval φ ρ hx
            refine ⟨.tuple #[y, .bool true], ?_, RV_tup.2 ⟨_, rfl, ?_⟩⟩
            · simp only [execOp, ho]
              refine run_value _ w _ ?_
              rw [h4]; exact run_ta_yes true hd hi w
            · rw [RL_cons]; refine ⟨_, _, rfl, h5, ?_⟩
              rw [RL_cons]; exact ⟨_, _, rfl, by rw [RV_bool], by rw [RL_nil]⟩
      | _ => cases g
    | _ => cases g
theorem cells_spec {v : AV} {k : KL} (hh : AV.cells v k = true) : ∃ cs, k cs = true ∧ ∀ φ x, RV φ v x → RL φ cs x.cells.toList ∧ One x.cells.toList := by
  have one : ∀ {φ : Phi} {v : AV} {x : Value}, RV φ v x → x.oneCell' = true → RL φ [v] x.cells.toList ∧ One x.cells.toList := by
    intro φ v x hr h1
    rw [one_cells h1]
    exact ⟨by rw [RL_cons]; exact ⟨_, _, rfl, hr, by rw [RL_nil]⟩, by intro y hy; simp at hy; subst hy; exact h1⟩
  cases v with
  | «at» a => cases a with
    | any => cases hh
    | nilp => exact ⟨_, hh, fun φ x hx => one hx (by have : x = .pointer none := RV_at.1 hx
                                                     subst this; rfl)⟩
    | nils => exact ⟨_, hh, fun φ x hx => one hx (by have : x = .slice none 0 0 := RV_at.1 hx
                                                     subst this; rfl)⟩
    | sz => exact ⟨_, hh, fun φ x hx => one hx (by obtain ⟨_, _, rfl⟩ : ∃ a k, x = .slice a 0 k := RV_at.1 hx
                                                   rfl)⟩
    | nilf => exact ⟨_, hh, fun φ x hx => one hx (by have : x = .nilFunc := RV_at.1 hx
                                                     subst this; rfl)⟩
    | nili => exact ⟨_, hh, fun φ x hx => one hx (by have : x = .nilIface := RV_at.1 hx
                                                     subst this; rfl)⟩
    | flt n => exact ⟨_, hh, fun φ x hx => one hx (by have : x = .float .f64 n := RV_at.1 hx
                                                      subst this; rfl)⟩
    | str n l => exact ⟨_, hh, fun φ x hx => one hx (by obtain ⟨s, rfl, _⟩ := RV_at.1 hx
                                                        rfl)⟩
    | sl b p n k e => exact ⟨_, hh, fun φ x hx => one hx (by obtain ⟨_, _, _, _, _, rfl, _⟩ := RV_sl hx
                                                             rfl)⟩
  | bool b => exact ⟨_, hh, fun φ x hx => one hx (by rw [RV_bool] at hx; subst hx; rfl)⟩
  | int k n => exact ⟨_, hh, fun φ x hx => one hx (by rw [RV_int] at hx; subst hx; rfl)⟩
  | ptr b p => exact ⟨_, hh, fun φ x hx => one hx (by obtain ⟨_, _, _, _, rfl⟩ := RV_ptr.1 hx
                                                      rfl)⟩
  | row g l => cases g with
    | agg => exact ⟨l, hh, fun φ x hx => by obtain ⟨cs, rfl, h1, h2⟩ := RV_agg.1 hx
                                            exact ⟨h1, h2⟩⟩
    | tup => cases hh
    | ifc t => exact ⟨_, hh, fun φ x hx => one hx (by obtain ⟨y, rfl, _⟩ := RV_ifc.1 hx
                                                      rfl)⟩
    | fn a b => exact ⟨_, hh, fun φ x hx => one hx (by obtain ⟨y, z, rfl, _⟩ := RV_fn.1 hx
                                                       rfl)⟩
end Go.Proofs.YtkdjhegkcfmkoaaGreat.AM
namespace Go.Proofs.YtkdjhegkcfmkoaaGreat.AM
open Go.AM
set_option maxRecDepth 100000
variable {f : Operand → Operand} {E : List AV} {F : Fr} {o : Oper} {h : H} {c : K2} {cl : Cl}
theorem fold_zip (l : List Value) (g : Array Value → Value → Nat → Array Value) : ∀ (n : Nat) (a : Array Value), (l.zipIdx n).foldl (fun cs (x : Value × Nat) => g cs x.1 x.2) a = (l.foldl (fun (p : Array Value × Nat) v => (g p.1 v p.2, p.2 + 1)) (a, n)).1 := by
  induction l with
  | nil => intro n a; rfl
  | cons v t ih => intro n a; simp only [List.zipIdx_cons, List.foldl_cons]; exact ih _ _
/-- cells laid over cells of the same number -/
theorem lay_over : ∀ (l pre mid tl : List Value) (n : Nat), mid.length = l.length → (l.foldl (fun (p : Array Value × Nat) v => (p.1.setIfInBounds (n + p.2) v, p.2 + 1)) ((pre ++ mid ++ tl).toArray, pre.length - n)).1 = (pre ++ l ++ tl).toArray ∨ pre.length < n := by
  intro l
  induction l with
  | nil =>
    intro pre mid tl n hm
    have : mid = [] := List.length_eq_zero_iff.1 hm
    subst this
    exact Or.inl rfl
  | cons v t ih =>
    intro pre mid tl n hm
    by_cases hn : pre.length < n
    · exact Or.inr hn
    refine Or.inl ?_
    cases mid with
    | nil => cases hm
    | cons m mid =>
      have h1 : (pre ++ m :: mid ++ tl).toArray.setIfInBounds (n + (pre.length - n)) v = ((pre ++ [v]) ++ mid ++ tl).toArray := by
        rw [show n + (pre.length - n) = pre.length by omega]
        simp
      simp only [List.foldl_cons]
      rw [h1]
      rcases ih (pre ++ [v]) mid tl n (by simpa using hm) with h2 | h2
      · rw [show (pre ++ [v]).length - n = pre.length - n + 1 by simp; omega] at h2
        rw [h2]; simp
      · simp at h2; omega
theorem fill_one {place : Nat → Option (Nat × Nat)} {pre mid tl : List Value} {v : Value} {i : Nat} {rest : List (Nat × Value)} (hp : place i = some (pre.length, v.cells.size)) (hm : mid.length = v.cells.size) :
    Instr.fill place (pre ++ mid ++ tl).toArray ((i, v) :: rest) = Instr.fill place (pre ++ v.cells.toList ++ tl).toArray rest := by
  rw [Instr.fill, hp]
  have h1 : ¬ ((v.cells.size ≠ v.cells.size || pre.length + v.cells.size > (pre ++ mid ++ tl).toArray.size) = true) := by simp; omega
  simp only [if_neg h1]
  congr 1
  rw [← Array.foldl_toList, Array.toList_zipIdx]
  have := fold_zip v.cells.toList (fun cs c j => cs.setIfInBounds (pre.length + j) c) 0 (pre ++ mid ++ tl).toArray
  rw [this]
  rcases lay_over v.cells.toList pre mid tl pre.length (by simpa using hm) with h2 | h2
  · rw [show pre.length - pre.length = 0 by omega] at h2; exact h2
  · omega
/-- laid parts stand to the model's -/
theorem segs_ok {place : Nat → Option (Nat × Nat)} : ∀ (ps : List (Nat × Operand)) (o : Nat) (z : List AV) (sg : List Seg) (k : KL), segs place (ps.map fun p => (p.1, f p.2)) o z = some sg → runSegs E F sg k = true →
    ∃ r, k r = true ∧ ∀ φ (ρ : Operand → Value) (pre zs : List Value), pre.length = o → RL φ z zs → One zs → (∀ p ∈ ps, Rd f E F φ ρ p.2) →
      ∃ rs, Instr.fill place (pre ++ zs).toArray (ps.map fun p => (p.1, ρ p.2)) = some (pre ++ rs).toArray ∧ RL φ r rs ∧ One rs := by
  intro ps
  induction ps with
  | nil =>
    intro o z sg k hs hr
    injection hs with hs
    subst hs
    have hr : forceL z (fun l => lappK l [] k) = true := hr
    rw [forceL_eq, lappK_eq, List.append_nil] at hr
    exact ⟨z, hr, fun φ ρ pre zs _ h1 h2 _ => ⟨zs, rfl, h1, h2⟩⟩
  | cons p ps ih =>
    intro o z sg k hs hr
    obtain ⟨i, x⟩ := p
    simp only [List.map_cons, segs] at hs
    cases hp : place i with
    | none => rw [hp] at hs; cases hs
    | some q =>
      obtain ⟨a, s⟩ := q
      rw [hp] at hs
      cases hc : (decide (o ≤ a) && decide (a - o + s ≤ z.length)) with
      | false => simp only [hc] at hs; cases hs
      | true =>
        simp only [hc] at hs
        have hc1 : o ≤ a ∧ a - o + s ≤ z.length := by simpa using hc
        cases hg : segs place (ps.map fun p => (p.1, f p.2)) (a + s) (z.drop (a - o + s)) with
        | none => simp only [hg] at hs; cases hs
        | some l =>
          simp only [hg] at hs
          have core : ∀ k, runSegs E F (.x (f x) s :: l) k = true → ∃ cs r, k (cs ++ r) = true ∧ cs.length = s ∧ ∀ φ (ρ : Operand → Value) (pre zs : List Value), pre.length = a → RL φ (z.drop (a - o)) zs → One zs → (∀ p ∈ (i, x) :: ps, Rd f E F φ ρ p.2) →
              ∃ rs, Instr.fill place (pre ++ zs).toArray (((i, x) :: ps).map fun p => (p.1, ρ p.2)) = some (pre ++ rs).toArray ∧ RL φ (cs ++ r) rs ∧ One rs := by
            intro k hr
            obtain ⟨v, hv, g⟩ := rd_spec (show rd E F (f x) (fun v => AV.cells v fun cs => Bool.rec false (runSegs E F l fun r => lappK cs r k) ((llen cs).beq s)) = true from hr)
            obtain ⟨cs, g1, g2⟩ := cells_spec g
            cases hb : (llen cs).beq s with
            | false => rw [hb] at g1; cases g1
            | true =>
              rw [hb] at g1
              have hlen : cs.length = s := by rw [← llen_eq]; exact (beq_iff _ _).1 hb
              obtain ⟨r, g3, g4⟩ := ih (a + s) (z.drop (a - o + s)) l (fun r => lappK cs r k) hg g1
              rw [lappK_eq] at g3
              refine ⟨cs, r, g3, hlen, fun φ ρ pre zs h1 h2 h3 hx => ?_⟩
              obtain ⟨h4, h5⟩ := g2 φ (ρ x) (hx (i, x) (by simp) v hv)
              have hcl := (RL_get.1 h4).1
              have hzl := (RL_get.1 h2).1
              have hsz : (ρ x).cells.size = s := by rw [← hlen, hcl]; simp
              have hzs : s ≤ zs.length := by rw [← hzl, List.length_drop]; omega
              obtain ⟨rs, h6, h7, h8⟩ := g4 φ ρ (pre ++ (ρ x).cells.toList) (zs.drop s) (by simp; omega) (by
                have := RL_drop h2 s
                rw [List.drop_drop] at this
                exact this) (fun y hy => h3 y (List.mem_of_mem_drop hy)) (fun p hp => hx p (by simp [hp]))
              refine ⟨(ρ x).cells.toList ++ rs, ?_, RL_append h4 h7, ?_⟩
              · rw [List.map_cons]
                have h9 : zs = zs.take s ++ zs.drop s := (List.take_append_drop s zs).symm
                rw [show pre ++ zs = pre ++ zs.take s ++ zs.drop s by rw [List.append_assoc, ← h9], fill_one (by rw [hp, h1, hsz]) (by rw [List.length_take, hsz]; omega)]
                rw [h6, List.append_assoc]
              · intro y hy
                rcases List.mem_append.1 hy with hy | hy
                · exact h5 y hy
                · exact h8 y hy
          by_cases he : o = a
          · rw [if_pos he] at hs
            injection hs with hs
            subst hs
            obtain ⟨cs, r, g1, _, g2⟩ := core k hr
            refine ⟨cs ++ r, g1, fun φ ρ pre zs h1 h2 h3 hx => g2 φ ρ pre zs (by omega) ?_ h3 hx⟩
            rw [show a - o = 0 by omega, List.drop_zero]; exact h2
          · rw [if_neg he] at hs
            injection hs with hs
            subst hs
            have hr : forceL (z.take (a - o)) (fun m => runSegs E F (.x (f x) s :: l) fun r => lappK m r k) = true := hr
            rw [forceL_eq] at hr
            obtain ⟨cs, r, g1, _, g2⟩ := core (fun r => lappK (z.take (a - o)) r k) hr
            rw [lappK_eq] at g1
            refine ⟨_, g1, fun φ ρ pre zs h1 h2 h3 hx => ?_⟩
            have hzl := (RL_get.1 h2).1
            obtain ⟨rs, h4, h5, h6⟩ := g2 φ ρ (pre ++ zs.take (a - o)) (zs.drop (a - o)) (by simp; omega) (RL_drop h2 _) (fun y hy => h3 y (List.mem_of_mem_drop hy)) hx
            refine ⟨zs.take (a - o) ++ rs, ?_, RL_append (RL_take h2 _) h5, ?_⟩
            · rw [List.append_assoc, List.take_append_drop] at h4
              rw [h4, List.append_assoc]
            · intro y hy
              rcases List.mem_append.1 hy with hy | hy
              · exact h3 y (List.mem_of_mem_take hy)
              · exact h6 y hy
theorem buK_spec {t : Nat} {ps : List (Nat × Operand)} {sg : List Seg} (hk : buK t ps = some sg) : ∃ place it z, Tryz.prog.info? t = some it ∧ it.zero = some z ∧ (∀ φ, RL φ (zeroC t) z.cells.toList) ∧ One z.cells.toList ∧ segs place ps 0 (zeroC t) = some sg ∧
    ∀ vs : List (Nat × Value), Tryz.prog.built t vs = Instr.fill place z.cells vs := by
  unfold buK at hk
  cases hz : zvK t with
  | none => rw [hz] at hk; cases hk
  | some kd =>
    rw [hz] at hk
    obtain ⟨it, z, hi, hzz, hr, h1, _⟩ := zvK_spec hz
    have hk : (match tDesc t with
      | .struct fs => (match placesOf fs.toList with | some pl => segs (fun i => pl[i]?) ps 0 (zeroC t) | none => none)
      | .array _ e => (match Tryz.prog.info? e with | some i => segs (elemPlace i.size) ps 0 (zeroC t) | none => none)
      | _ => none) = some sg := hk
    cases hd : tDesc t with
    | struct fs =>
      rw [hd] at hk
      cases hp : placesOf fs.toList with
      | none => simp only [hp] at hk; cases hk
      | some pl =>
        simp only [hp] at hk
        refine ⟨_, it, z, hi, hzz, hr, h1, hk, fun vs => ?_⟩
        have hu := tDesc_some hd (by intro e; cases e)
        unfold placesOf at hp
        unfold Program.built
        simp only [hi, hu, hzz, hp]
        congr 1
        funext i
        simp
    | array n e =>
      rw [hd] at hk
      cases hp : Tryz.prog.info? e with
      | none => simp only [hp] at hk; cases hk
      | some ie =>
        simp only [hp] at hk
        refine ⟨_, it, z, hi, hzz, hr, h1, hk, fun vs => ?_⟩
        have hu := tDesc_some hd (by intro e; cases e)
        unfold Program.built
        simp only [hi, hu, hzz, hp]
        rfl
    | _ => rw [hd] at hk; cases hk
theorem q_build {t : TypeId} {ps : Array (Nat × Operand)} (ho : o.op = .build t ps) (hh : b_build t (ps.map fun p => (p.1, f p.2)) cl E F h c = true) : Quiet f E F o h c := by
  have hh : onOpt (buK t (ps.map fun p => (p.1, f p.2)).toList) (fun s => runSegs E F s fun l => c (.agg l) h) = true := hh
  cases hk : buK t (ps.map fun p => (p.1, f p.2)).toList with
  | none => rw [hk] at hh; cases hh
  | some sg =>
    rw [hk] at hh
    have hh : runSegs E F sg (fun l => c (.agg l) h) = true := hh
    obtain ⟨place, it, z, hi, hz, hr, h1, hs, hb⟩ := buK_spec hk
    rw [Array.toList_map] at hs
    obtain ⟨r, g1, g2⟩ := segs_ok ps.toList 0 (zeroC t) sg _ hs hh
    refine ⟨_, g1, fun φ ρ w hx => ?_⟩
    obtain ⟨rs, h2, h3, h4⟩ := g2 φ ρ [] z.cells.toList rfl (hr φ) h1 (fun p hp => hx p.2 (by
      rw [ho]; simp only [Op.operands]
      simp only [List.mem_toArray, List.mem_map]
      exact ⟨p, hp, rfl⟩))
    refine ⟨.agg rs.toArray, ?_, RV_agg.2 ⟨_, rfl, by simpa using h3, by intro y hy; exact h4 y (by simpa using hy)⟩⟩
    simp only [execOp, ho]
    refine run_value _ w _ (run_build w t _ _ ?_)
    rw [hb]
    have : (ps.map fun x => match x with | (i, x) => (i, ρ x)).toList = ps.toList.map fun p => (p.1, ρ p.2) := by rw [Array.toList_map]
    rw [this]
    simpa using h2
theorem cvK_int {s d : Nat} {k : IntKind} (h : cvK s d = .int k) : Tryz.prog.underlying d = some (.int k) ∧ ∃ ds, Tryz.prog.underlying s = some ds := by
  unfold cvK at h
  cases hd : tDesc d with
  | int k' =>
    rw [hd] at h
    cases hs : Tryz.prog.underlying s with
    | none => simp only [hs] at h; cases h
    | some ds => simp only [hs] at h; injection h with h; subst h; exact ⟨tDesc_some hd (by intro e; cases e), ds, rfl⟩
  | string =>
    rw [hd] at h
    cases hs : tDesc s <;> simp only [hs] at h <;> first | cases h | (split at h <;> cases h)
  | slice e =>
    rw [hd] at h
    cases hs : tDesc s <;> simp only [hs] at h <;> first | cases h | (split at h <;> cases h)
  | _ => rw [hd] at h; cases h
theorem cvK_same {s d : Nat} (h : cvK s d = .same) : Tryz.prog.underlying d = some .string ∧ Tryz.prog.underlying s = some .string := by
  unfold cvK at h
  cases hd : tDesc d with
  | int k' => rw [hd] at h; simp only at h; split at h <;> cases h
  | string =>
    rw [hd] at h
    cases hs : tDesc s with
    | string => exact ⟨tDesc_some hd (by intro e; cases e), tDesc_some hs (by intro e; cases e)⟩
    | slice e => simp only [hs] at h; split at h <;> cases h
    | _ => simp only [hs] at h; cases h
  | slice e =>
    rw [hd] at h
    cases hs : tDesc s <;> simp only [hs] at h <;> first | cases h | (split at h <;> cases h)
  | _ => rw [hd] at h; cases h
theorem u8_spec {e : Nat} (h : (isU8 (tDesc e) && (tSz e).beq 1) = true) : Tryz.prog.underlying e = some (.int .u8) ∧ ∃ i, Tryz.prog.info? e = some i ∧ i.size = 1 := by
  rw [Bool.and_eq_true] at h
  have h1 := (beq_iff _ _).1 h.2
  refine ⟨?_, tSz_some h1 (by decide)⟩
  cases hd : tDesc e with
  | int k =>
    rw [hd] at h
    cases k <;> first | exact tDesc_some hd (by intro e; cases e) | (exact absurd h.1 (by simp [isU8]))
  | _ => rw [hd] at h; exact absurd h.1 (by simp [isU8])
theorem cvK_b2s {s d : Nat} (h : cvK s d = .b2s) : Tryz.prog.underlying d = some .string ∧ ∃ e, Tryz.prog.underlying s = some (.slice e) ∧ Tryz.prog.underlying e = some (.int .u8) := by
  unfold cvK at h
  cases hd : tDesc d with
  | int k' => rw [hd] at h; simp only at h; split at h <;> cases h
  | string =>
    rw [hd] at h
    cases hs : tDesc s with
    | string => simp only [hs] at h; cases h
    | slice e =>
      simp only [hs] at h
      split at h
      · rename_i hu; exact ⟨tDesc_some hd (by intro e; cases e), e, tDesc_some hs (by intro e; cases e), (u8_spec hu).1⟩
      · cases h
    | _ => simp only [hs] at h; cases h
  | slice e =>
    rw [hd] at h
    cases hs : tDesc s <;> simp only [hs] at h <;> first | cases h | (split at h <;> cases h)
  | _ => rw [hd] at h; cases h
theorem cvK_s2b {s d : Nat} (h : cvK s d = .s2b) : Tryz.prog.underlying s = some .string ∧ ∃ e i, Tryz.prog.underlying d = some (.slice e) ∧ Tryz.prog.underlying e = some (.int .u8) ∧ Tryz.prog.info? e = some i ∧ i.size = 1 := by
  unfold cvK at h
  cases hd : tDesc d with
  | int k' => rw [hd] at h; simp only at h; split at h <;> cases h
  | string =>
    rw [hd] at h
    cases hs : tDesc s <;> simp only [hs] at h <;> first | cases h | (split at h <;> cases h)
  | slice e =>
    rw [hd] at h
    cases hs : tDesc s with
    | string =>
      simp only [hs] at h
      split at h
      · rename_i hu; obtain ⟨h1, i, h2, h3⟩ := u8_spec hu; exact ⟨tDesc_some hs (by intro e; cases e), e, i, tDesc_some hd (by intro e; cases e), h1, h2, h3⟩
      · cases h
    | _ => simp only [hs] at h; cases h
  | _ => rw [hd] at h; cases h
end Go.Proofs.YtkdjhegkcfmkoaaGreat.AM
namespace Go.Proofs.YtkdjhegkcfmkoaaGreat.AM
open Go.AM
set_option maxRecDepth 100000
variable {f : Operand → Operand} {E : List AV} {F : Fr} {o : Oper} {h : H} {c : K2} {cl : Cl}
theorem q_convert_int {s d : TypeId} {x : Operand} {k : IntKind} (ho : o.op = .convert s d x) (hk : cvK s d = .int k) (hh : b_convert s d (f x) cl E F h c = true) : Quiet f E F o h c := by
  obtain ⟨a, ha, hc⟩ := rd_spec hh
  rw [hk] at hc
  obtain ⟨kd, n, rfl, g⟩ := onInt_spec hc
  rw [retI_eq] at g
  refine ⟨_, g, fun φ ρ w hx => ⟨.int k (k.wrap n), ?_, by rw [RV_int]⟩⟩
  have h1 := RV_int.1 (hx x (by simp [Op.operands, ho]) _ ha)
  simp only [execOp, ho]
  refine run_value _ w _ ?_
  rw [h1]
  obtain ⟨hu, ds, hs⟩ := cvK_int hk
  unfold convert
  rw [Sem.run_bind, run_underlying hs, Result.andThen_ok, Sem.run_bind, run_underlying hu, Result.andThen_ok]
  cases ds <;> rfl
theorem q_convert_same {s d : TypeId} {x : Operand} (ho : o.op = .convert s d x) (hk : cvK s d = .same) (hh : b_convert s d (f x) cl E F h c = true) : Quiet f E F o h c := by
  obtain ⟨a, ha, hc⟩ := rd_spec hh
  rw [hk] at hc
  obtain ⟨n, l, rfl, g⟩ := onStr_spec hc
  refine ⟨_, g, fun φ ρ w hx => ⟨ρ x, ?_, hx x (by simp [Op.operands, ho]) _ ha⟩⟩
  obtain ⟨t, h1, _⟩ := RV_at.1 (hx x (by simp [Op.operands, ho]) _ ha)
  simp only [execOp, ho]
  refine run_value _ w _ ?_
  rw [h1]
  obtain ⟨hu, hs⟩ := cvK_same hk
  unfold convert
  rw [Sem.run_bind, run_underlying hs, Result.andThen_ok, Sem.run_bind, run_underlying hu, Result.andThen_ok]
  rfl
theorem cellK_spec {r : Nat} {t : Rws} {o : Nat} {k : K1} (hh : cellK r t o k = true) : ∃ v, cellAt r t o = some v ∧ k v = true := by
  unfold cellK at hh
  rw [Rws.get_eq] at hh
  exact lnthK_spec hh
theorem cellsK_spec {r : Nat} {t : Rws} : ∀ (s o : Nat) (k : KL), cellsK r t s o k = true → ∃ l : List AV, k l = true ∧ l.length = s ∧ ∀ i, i < s → l[i]? = cellAt r t (o + i)
  | 0, o, k, hh => ⟨[], hh, rfl, fun i hi => by omega⟩
  | s + 1, o, k, hh => by
    obtain ⟨v, hv, g⟩ := cellK_spec (k := fun v => cellsK r t s o.succ fun l => k (v :: l)) hh
    obtain ⟨l, h1, h2, h3⟩ := cellsK_spec s o.succ (fun l => k (v :: l)) g
    refine ⟨v :: l, h1, by simp [h2], fun i hi => ?_⟩
    cases i with
    | zero => exact hv.symm
    | succ i => simp only [List.getElem?_cons_succ]; rw [h3 i (by omega)]; congr 1; omega
/-- a row of cells that is as it should be -/
def RowOk (r : Nat) (t : Rws) (o s : Nat) (l : List AV) : Prop := 1 ≤ r → o + s ≤ r * t.cap → (∀ i, i < t.cap → (t.at i).length ≤ r) → (∀ i, i < s → (cellAt r t (o + i)).isSome = true) → l.length = s ∧ ∀ i, i < s → l[i]? = cellAt r t (o + i)
theorem rowAt_spec {r : Nat} {t : Rws} {o s : Nat} {k : KL} (hh : rowAt r t o s k = true) : ∃ l : List AV, k l = true ∧ RowOk r t o s l := by
  have slow : cellsK r t s o k = true → ∃ l : List AV, k l = true ∧ RowOk r t o s l := fun hh => by
    obtain ⟨l, h1, h2⟩ := cellsK_spec s o k hh
    exact ⟨l, h1, fun _ _ _ _ => h2⟩
  have hh : (Bool.rec (cellsK r t s o k) (Rws.get t (o.div r) k) (Bool.rec false ((o.mod r).beq 0) (r.beq s)) : Bool) = true := hh
  cases h1 : r.beq s with
  | false => rw [h1] at hh; exact slow hh
  | true =>
    rw [h1] at hh
    cases h2 : (o.mod r).beq 0 with
    | false => rw [h2] at hh; exact slow hh
    | true =>
      rw [h2] at hh
      have e1 := (beq_iff _ _).1 h1
      have e2 : o % r = 0 := (beq_iff _ _).1 h2
      have hh2 : Rws.get t (o.div r) k = true := hh
      rw [Rws.get_eq] at hh2
      subst e1
      refine ⟨t.at (o / r), hh2, fun hr hcap hrow hsome => ?_⟩
      have key : ∀ i, i < r → (o + i) / r = o / r ∧ (o + i) % r = i := fun i hi => by
        obtain ⟨q, hq⟩ := Nat.dvd_of_mod_eq_zero e2
        subst hq
        rw [Nat.mul_add_div (by omega), Nat.mul_add_mod, Nat.mul_div_cancel_left _ (by omega), Nat.div_eq_of_lt hi, Nat.mod_eq_of_lt hi]
        exact ⟨rfl, rfl⟩
      have hc : ∀ i, i < r → cellAt r t (o + i) = (t.at (o / r))[i]? := fun i hi => by
        unfold cellAt; rw [(key i hi).1, (key i hi).2]
      refine ⟨?_, fun i hi => (hc i hi).symm⟩
      have hl : o / r < t.cap := by
        rw [Nat.div_lt_iff_lt_mul (by omega), Nat.mul_comm]; omega
      have hle := hrow _ hl
      have hs := hsome (r - 1) (by omega)
      rw [hc (r - 1) (by omega)] at hs
      have : r - 1 < (t.at (o / r)).length := by
        obtain ⟨v, hv⟩ := Option.isSome_iff_exists.1 hs
        exact (List.getElem?_eq_some_iff.1 hv).1
      omega
/-- cells of a block, as they stand in the model's memory -/
theorem Mem.cells {φ : Phi} {w : World} (hm : Mem φ h w) {b : Nm} {c d m n r : Nat} {t : Rws} (hb : φ b = some (c, d, m)) (hB : h.at b = .mk n r t) {p s : Nat} (hp : p + s ≤ n) {l : List AV} (hrow : RowOk r t p s l) :
    ∃ vs : List Value, vs.length = s ∧ RL φ l vs ∧ One vs ∧ ∀ (j : Nat) v, vs[j]? = some v → w.cell? ((⟨c, d + p, none⟩ : Addr).add j) = some v := by
  have hblk := hm.blk b c d m hb
  rw [hB] at hblk
  obtain ⟨e1, e2, e3, e6, e4, e5, _⟩ := hblk
  obtain ⟨hl, hc⟩ := hrow e2 (by omega) e6 (fun i hi => by obtain ⟨v, x, h1, _⟩ := e4 (p + i) (by omega); unfold cellAt; rw [h1]; rfl)
  have hv : ∀ i, i < s → ∃ x, w.cell? ⟨c, d + (p + i), none⟩ = some x ∧ x.oneCell' = true ∧ ∀ v, l[i]? = some v → RV φ v x := fun i hi => by
    obtain ⟨v, x, h1, h2, h3, h4⟩ := e4 (p + i) (by omega)
    exact ⟨x, h2, h4, fun u hu => by rw [hc i hi] at hu; unfold cellAt at hu; rw [h1] at hu; injection hu with hu; subst hu; exact h3⟩
  refine ⟨(List.range s).map fun i => (w.cell? ⟨c, d + (p + i), none⟩).getD undef, by simp, ?_, ?_, ?_⟩
  · refine RL_get.2 ⟨by simp [hl], fun i x v hx hv2 => ?_⟩
    have hi : i < s := by rw [← hl]; exact (List.getElem?_eq_some_iff.1 hx).1
    obtain ⟨y, h1, h2, h3⟩ := hv i hi
    simp [hi, h1] at hv2
    subst hv2
    exact h3 x hx
  · intro y hy
    simp only [List.mem_map, List.mem_range] at hy
    obtain ⟨i, hi, rfl⟩ := hy
    obtain ⟨y, h1, h2, h3⟩ := hv i hi
    rw [h1]; exact h2
  · intro j v hj
    have hi : j < s := by have := (List.getElem?_eq_some_iff.1 hj).1; simpa using this
    obtain ⟨y, h1, h2, h3⟩ := hv j hi
    simp [hi, h1] at hj
    subst hj
    rw [add_eq, show d + p + j = d + (p + j) by omega]; exact h1
theorem loadA_spec {b : Nm} {p s : Nat} {k : KL} (hh : loadA h b p s k = true) : ∃ n r t, h.at b = .mk n r t ∧ p + s ≤ n ∧ rowAt r t p s k = true := by
  unfold loadA at hh
  rw [getB_eq] at hh
  obtain ⟨n, r, t, hB, g⟩ := onMk_spec hh
  cases hb : (p.add s).ble n with
  | false => rw [hb] at g; cases g
  | true => rw [hb] at g; exact ⟨n, r, t, hB, (ble_iff _ _).1 hb, g⟩
theorem load1_spec {b : Nm} {p : Nat} {k : K1} (hh : load1 h b p k = true) : ∃ n r t v, h.at b = .mk n r t ∧ p + 1 ≤ n ∧ cellAt r t p = some v ∧ k v = true := by
  unfold load1 at hh
  rw [getB_eq] at hh
  obtain ⟨n, r, t, hB, g⟩ := onMk_spec hh
  cases hb : Nat.ble p.succ n with
  | false => rw [hb] at g; cases g
  | true =>
    rw [hb] at g
    obtain ⟨v, hv, g⟩ := cellK_spec g
    exact ⟨n, r, t, v, hB, (ble_iff _ _).1 hb, hv, g⟩
theorem r_load {t : TypeId} {x : Operand} (ho : o.op = .load t x) (hh : b_load t (f x) cl E F h c = true) : Reads f E F o h c := by
  obtain ⟨a, ha, hc⟩ := rd_spec hh
  obtain ⟨b, p, rfl, g⟩ := onPtr_spec hc
  cases hk : ldK t with
  | no => rw [hk] at g; cases g
  | one =>
    rw [hk] at g
    obtain ⟨d, inf, hd, hi, hcs⟩ := ldK_spec hk (by intro e; cases e)
    rcases hcs with ⟨_, e⟩ | ⟨hag, _⟩
    · cases e
    obtain ⟨n, r, tt, v, hB, hp, hv, g⟩ := load1_spec (show load1 h b p (fun v => c v h) = true from g)
    refine ⟨v, g, fun hh hle φ ρ w hm hx => ?_⟩
    obtain ⟨cc, dd, m, h1, h2⟩ := RV_ptr.1 (hx x (by simp [Op.operands, ho]) _ ha)
    have hblk := hm.blk b cc dd m h1
    rw [hle.mk hB] at hblk
    obtain ⟨_, _, _, _, e4, _⟩ := hblk
    obtain ⟨v', y, h3, h4, h5, _⟩ := e4 p (by omega)
    have : v' = v := by unfold cellAt at hv; rw [h3] at hv; injection hv
    subst this
    refine ⟨y, ?_, h5⟩
    simp only [execOp, ho]
    refine run_value _ w _ ?_
    rw [h2]
    unfold Instr.loadAt loadVar
    simp only [Instr.sureAddr, Sem.run_bind, Sem.run_pure, Result.andThen_ok, run_isAgg hd, hag, Bool.false_eq_true, if_false, run_load, h4]
  | row s =>
    rw [hk] at g
    obtain ⟨d, inf, hd, hi, hcs⟩ := ldK_spec hk (by intro e; cases e)
    rcases hcs with ⟨hag, e⟩ | ⟨_, e⟩
    case inr => cases e
    injection e with e
    subst e
    obtain ⟨n, r, tt, hB, hp, g⟩ := loadA_spec (show loadA h b p inf.size (fun l => c (.agg l) h) = true from g)
    obtain ⟨l, g, hrow⟩ := rowAt_spec g
    refine ⟨_, g, fun hh hle φ ρ w hm hx => ?_⟩
    obtain ⟨cc, dd, m, h1, h2⟩ := RV_ptr.1 (hx x (by simp [Op.operands, ho]) _ ha)
    obtain ⟨vs, h3, h4, h5, h6⟩ := Mem.cells hm h1 (hle.mk hB) hp hrow
    refine ⟨.agg vs.toArray, ?_, RV_agg.2 ⟨_, rfl, by simpa using h4, by intro y hy; exact h5 y (by simpa using hy)⟩⟩
    simp only [execOp, ho]
    refine run_value _ w _ ?_
    rw [h2]
    have hl := run_loadCells_list (P := Tryz.prog) w ⟨cc, dd + p, none⟩ vs h6
    rw [h3] at hl
    unfold Instr.loadAt loadVar
    simp only [Instr.sureAddr, Sem.run_bind, Sem.run_pure, Result.andThen_ok, run_isAgg hd, hag, if_true, run_sizeOf' hi, hl]
end Go.Proofs.YtkdjhegkcfmkoaaGreat.AM
