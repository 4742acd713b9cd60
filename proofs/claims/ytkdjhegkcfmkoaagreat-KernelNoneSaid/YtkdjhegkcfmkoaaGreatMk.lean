/- The abstract machine over this program: frames of arguments, deferred calls that do nothing. -/
import Derived.Test.YtkdjhegkcfmkoaaGreatMj
import Derived.Defers
import Derived.Recover
namespace Go.Proofs.YtkdjhegkcfmkoaaGreat.AM
open Go.AM
set_option maxRecDepth 100000
theorem dstsIn_mono {n m : Nat} (hnm : n ≤ m) : ∀ (c : Code), dstsIn n c = true → dstsIn m c = true := by
  intro c
  induction c with
  | region id ops d =>
    intro h
    have h := List.all_eq_true.1 (show (ops.toList.all fun o => match o.dst with | some t => Nat.blt t n | none => true) = true from h)
    refine List.all_eq_true.2 (fun o ho => ?_)
    have h1 := h o ho
    cases hd : o.dst with
    | none => rfl
    | some t =>
      rw [hd] at h1
      have h2 : Nat.blt t n = true := h1
      rw [Nat.blt_eq] at h2
      show Nat.blt t m = true
      rw [Nat.blt_eq]
      exact Nat.lt_of_lt_of_le h2 hnm
  | seq a b iha ihb => intro h; simp only [dstsIn, Bool.and_eq_true] at h ⊢; exact ⟨iha h.1, ihb h.2⟩
  | cond x a b iha ihb => intro h; simp only [dstsIn, Bool.and_eq_true] at h ⊢; exact ⟨iha h.1, ihb h.2⟩
  | block id a ih => exact ih
  | loop a ih => exact ih
  | scope a ih => exact ih
  | _ => intro _; rfl
theorem frameOf_spec : ∀ (l : List AV) (F : Fr) (i : Nat) (k : Fr → Bool), i + l.length ≤ 512 → frameOf l F i k = true → ∃ F', k F' = true ∧ ∀ t, t < 512 → (∀ v, i ≤ t → l[t - i]? = some v → F'.at (pathOf t) = v) ∧ ((t < i ∨ i + l.length ≤ t) → F'.at (pathOf t) = F.at (pathOf t))
  | [], F, i, k, _, hh => ⟨F, hh, fun t _ => ⟨fun v _ h => by simp at h, fun _ => rfl⟩⟩
  | v :: l, F, i, k, hi, hh => by
    have hh : Fr.put F (pathOf i) v (fun F => frameOf l F i.succ k) = true := hh
    rw [Fr.put_eq] at hh
    simp only [List.length_cons] at hi
    obtain ⟨F', h1, h2⟩ := frameOf_spec l _ (i + 1) k (by omega) hh
    refine ⟨F', h1, fun t ht => ⟨fun u hit hu => ?_, fun hout => ?_⟩⟩
    · by_cases e : t = i
      · subst e
        rw [Nat.sub_self] at hu
        simp at hu
        subst hu
        rw [(h2 t ht).2 (Or.inl (by omega)), Fr.at_set, if_pos rfl]
      · refine (h2 t ht).1 u (by omega) ?_
        rw [show t - i = (t - (i + 1)) + 1 by omega] at hu
        simpa using hu
    · rw [(h2 t ht).2 (by simp only [List.length_cons] at hout; omega), Fr.at_set, if_neg]
      intro e
      have := pathOf_inj (by omega) ht e
      simp only [List.length_cons] at hout
      omega
/-- the frame a function begins with -/
theorem frame_args {l : List AV} {k : Fr → Bool} (hl : l.length ≤ 64) (hh : frameOf l Fr.none 0 k = true) : ∃ F, k F = true ∧ ∀ (M : Nat) (φ : Phi) (args : Array Value) (n : Nat) ds, (∀ t, M.testBit t = true → t < 512) → RL φ l args.toList →
    FrR M φ F { tmps := args ++ Array.replicate n undef, defers := ds } := by
  obtain ⟨F, h1, h2⟩ := frameOf_spec l _ 0 k (by omega) hh
  refine ⟨F, h1, fun M φ args n ds hM hr t ht => ?_⟩
  have ht5 := hM t ht
  have hlen : l.length = args.size := by rw [(RL_get.1 hr).1, Array.length_toList]
  by_cases hlt : t < l.length
  · have hx := List.getElem?_eq_getElem hlt
    rw [(h2 t ht5).1 _ (Nat.zero_le _) (by rw [Nat.sub_zero]; exact hx)]
    obtain ⟨v, hv, hrv⟩ := RL_at hr hx
    have he : ({ tmps := args ++ Array.replicate n undef, defers := ds } : Act).eval (.tmp t) = v := by
      show (args ++ Array.replicate n undef).getD t undef = v
      rw [Array.getD_eq_getD_getElem?, Array.getElem?_append_left (by omega), ← Array.getElem?_toList, hv]; rfl
    rw [he]; exact hrv
  · rw [(h2 t ht5).2 (Or.inr (by omega)), Fr.at_none]
    exact RV_at.2 trivial
/-- what the idle functions do: nothing -/
def IdleOk : Prop := ∀ g args w, idleF g = true → CallsD Tryz.prog g args .returning w fun e u w' => (∃ v, e = .returned v) ∧ u = .returning ∧ w' = w
theorem leaves_idle (hid : IdleOk) {fn : Func} {tmps : Array Value} {R : Ending → World → Prop} {v : Value} {w : World} (hr : (results fn tmps).run Tryz.prog w = .ok v w) (hR : R (.returned v) w) : ∀ (ds : List Deferred), (∀ d ∈ ds, IdleD d) → Leaves Tryz.prog fn tmps R ds .returning w
  | [], _ => ⟨v, hr, hR⟩
  | d :: ds, h => by
    obtain ⟨fv, cap, g, args, h1, h2, h3⟩ := h d (by simp)
    refine ⟨(by intro e; cases e), fv, cap, g, args, h1, h2 w, CallsD.mono (hid g args w h3) ?_⟩
    rintro e u' w' ⟨⟨v', rfl⟩, rfl, rfl⟩
    exact leaves_idle hid hr hR ds (fun d hd => h d (by simp [hd]))
theorem bodyOf_spec {f M : Nat} {rs : List ResultVar} {b : Code} (h : bodyOf f = some (M, rs, b)) : ∃ fn, Tryz.prog.funcs[f]? = some fn ∧ fn.body = some b ∧ rs = fn.results.toList ∧ dstsIn fn.ntmps b = true ∧ (∀ t, M.testBit t = true → t < 512) ∧ (fn.name == "runtime.NumGoroutine") = false := by
  unfold bodyOf at h
  cases hf : Tryz.prog.funcs[f]? with
  | none => rw [hf] at h; cases h
  | some fn =>
    rw [hf] at h
    cases hb : fn.body with
    | none => simp only [hb] at h; cases h
    | some c =>
      simp only [hb] at h
      cases hc : (dstsIn fn.ntmps c && Nat.beq (Nat.shiftRight (maskOf c fn.results.toList) 512) 0 && !(fn.name == "runtime.NumGoroutine")) with
      | false => rw [hc] at h; cases h
      | true =>
        rw [hc] at h
        injection h with h
        injection h with h1 h2
        injection h2 with h2 h3
        subst h1; subst h2; subst h3
        simp only [Bool.and_eq_true, Bool.not_eq_true'] at hc
        refine ⟨fn, rfl, hb, rfl, hc.1.1, fun t ht => ?_, hc.2⟩
        have hle : maskOf c fn.results.toList >>> 512 = 0 := (beq_iff _ _).1 hc.1.2
        apply Nat.lt_of_not_le
        intro h512
        have h1 := Nat.testBit_shiftRight (i := 512) (j := t - 512) (maskOf c fn.results.toList)
        rw [hle, Nat.zero_testBit, show 512 + (t - 512) = t by omega] at h1
        rw [← h1] at ht
        cases ht
end Go.Proofs.YtkdjhegkcfmkoaaGreat.AM
namespace Go.Proofs.YtkdjhegkcfmkoaaGreat.AM
open Go.AM
set_option maxRecDepth 100000
theorem loadK_ok {h : H} {t : Nat} {b : Nm} {p : Nat} {k : K1} (hh : (LK.rec false (load1 h b p k) (fun n => loadA h b p n fun l => k (.agg l)) (ldK t) : Bool) = true) :
    ∃ v, k v = true ∧ ∀ (φ : Phi) w cc dd m, Mem φ h w → φ b = some (cc, dd, m) → ∃ r', (loadVar t ⟨cc, dd + p, none⟩).run Tryz.prog w = .ok r' w ∧ RV φ v r' := by
  cases hk : ldK t with
  | no => rw [hk] at hh; cases hh
  | one =>
    rw [hk] at hh
    obtain ⟨d, inf, hd, hi, hcs⟩ := ldK_spec hk (by intro e; cases e)
    rcases hcs with ⟨_, e⟩ | ⟨hag, _⟩
    · cases e
    obtain ⟨n, r, tt, v, hB, hp, hv, g⟩ := load1_spec (show load1 h b p k = true from hh)
    refine ⟨v, g, fun φ w cc dd m hm h1 => ?_⟩
    have hblk := hm.blk b cc dd m h1
    rw [hB] at hblk
    obtain ⟨_, _, _, _, e4, _⟩ := hblk
    obtain ⟨v', y, h3, h4, h5, _⟩ := e4 p (by omega)
    have : v' = v := by unfold cellAt at hv; rw [h3] at hv; injection hv
    subst this
    refine ⟨y, ?_, h5⟩
    unfold loadVar
    simp only [Sem.run_bind, Result.andThen_ok, run_isAgg hd, hag, Bool.false_eq_true, if_false, run_load, h4]
  | row s =>
    rw [hk] at hh
    obtain ⟨d, inf, hd, hi, hcs⟩ := ldK_spec hk (by intro e; cases e)
    rcases hcs with ⟨hag, e⟩ | ⟨_, e⟩
    case inr => cases e
    injection e with e
    subst e
    obtain ⟨n, r, tt, hB, hp, g⟩ := loadA_spec (show loadA h b p inf.size (fun l => k (.agg l)) = true from hh)
    obtain ⟨l, g, hrow⟩ := rowAt_spec g
    refine ⟨_, g, fun φ w cc dd m hm h1 => ?_⟩
    obtain ⟨vs, h3, h4, h5, h6⟩ := Mem.cells hm h1 hB hp hrow
    refine ⟨.agg vs.toArray, ?_, RV_agg.2 ⟨_, rfl, by simpa using h4, by intro y hy; exact h5 y (by simpa using hy)⟩⟩
    have hl := run_loadCells_list (P := Tryz.prog) w ⟨cc, dd + p, none⟩ vs h6
    rw [h3] at hl
    unfold loadVar
    simp only [Sem.run_bind, Sem.run_pure, Result.andThen_ok, run_isAgg hd, hag, if_true, run_sizeOf' hi, hl]
def resS (tmps : Array Value) (r : ResultVar) : Sem Value := match r with
  | .tmp t => pure (tmps.getD t undef)
  | .cell a t => do loadVar t (← asAddr (tmps.getD a undef))
theorem resV_ok {M : Nat} {F : Fr} {h : H} {r : ResultVar} {k : K1} (hh : resV M F h r k = true) : ∃ v, k v = true ∧ ∀ (φ : Phi) (a : Act) w, FrR M φ F a → Mem φ h w → ∃ r', (resS a.tmps r).run Tryz.prog w = .ok r' w ∧ RV φ v r' := by
  cases r with
  | tmp t =>
    obtain ⟨e, g⟩ := boolRec_t (show (Bool.rec false (Fr.get F (pathOf t) k) (M.testBit t) : Bool) = true from hh)
    rw [Fr.get_eq] at g
    exact ⟨_, g, fun φ a w hfr _ => ⟨_, rfl, hfr t e⟩⟩
  | cell x t =>
    obtain ⟨e, g⟩ := boolRec_t (show (Bool.rec false (Fr.get F (pathOf x) fun v => AV.onPtr v fun b o => LK.rec false (load1 h b o k) (fun n => loadA h b o n fun l => k (.agg l)) (ldK t)) (M.testBit x) : Bool) = true from hh)
    rw [Fr.get_eq] at g
    obtain ⟨b, p, hp, g1⟩ := onPtr_spec g
    obtain ⟨v, g2, g3⟩ := loadK_ok g1
    refine ⟨v, g2, fun φ a w hfr hm => ?_⟩
    have h1 := hfr x e
    rw [hp] at h1
    obtain ⟨cc, dd, m, h2, h3⟩ := RV_ptr.1 h1
    obtain ⟨r', h4, h5⟩ := g3 φ w cc dd m hm h2
    refine ⟨r', ?_, h5⟩
    have h3 : a.tmps.getD x undef = .pointer (some ⟨cc, dd + p, none⟩) := h3
    show (do loadVar t (← asAddr (a.tmps.getD x undef)) : Sem Value).run Tryz.prog w = _
    rw [h3]
    simp [asAddr, h4]
theorem resL_ok {M : Nat} {F : Fr} {h : H} : ∀ (rs : List ResultVar) (k : KL), resL M F h rs k = true → ∃ l, k l = true ∧ l.length = rs.length ∧ ∀ (φ : Phi) (a : Act) w, FrR M φ F a → Mem φ h w → ∃ vs : List Value, (rs.mapM (resS a.tmps) : Sem (List Value)).run Tryz.prog w = .ok vs w ∧ RL φ l vs
  | [], k, hh => ⟨[], hh, rfl, fun φ a w _ _ => ⟨[], by simp, by rw [RL_nil]⟩⟩
  | r :: rs, k, hh => by
    obtain ⟨v, g, g1⟩ := resV_ok (show resV M F h r (fun v => resL M F h rs fun l => k (v :: l)) = true from hh)
    obtain ⟨l, g2, gl, g3⟩ := resL_ok rs _ g
    refine ⟨v :: l, g2, by simp [gl], fun φ a w hfr hm => ?_⟩
    obtain ⟨r', h1, h2⟩ := g1 φ a w hfr hm
    obtain ⟨vs, h3, h4⟩ := g3 φ a w hfr hm
    exact ⟨r' :: vs, by simp [List.mapM_cons, h1, h3], by rw [RL_cons]; exact ⟨_, _, rfl, h2, h4⟩⟩
theorem resK_ok {M : Nat} {F : Fr} {h : H} {fn : Func} {c : K2} (hh : resK M fn.results.toList F h c = true) : ∃ r, c r h = true ∧ ∀ (φ : Phi) (a : Act) w, FrR M φ F a → Mem φ h w → ∃ r', (results fn a.tmps).run Tryz.prog w = .ok r' w ∧ RV φ r r' := by
  obtain ⟨l, g, gl, g1⟩ := resL_ok _ _ hh
  have hres : ∀ (a : Act) (w : World) (vs : List Value), (fn.results.toList.mapM (resS a.tmps) : Sem (List Value)).run Tryz.prog w = .ok vs w → (results fn a.tmps).run Tryz.prog w = .ok (if h : vs.toArray.size = 1 then vs.toArray[0] else .tuple vs.toArray) w := by
    intro a w vs hv
    have h0 : results fn a.tmps = (do let vs ← fn.results.mapM (resS a.tmps); pure (if h : vs.size = 1 then vs[0] else .tuple vs)) := rfl
    rw [h0, Array.mapM_eq_mapM_toList]
    simp [hv]
  match l, g, g1, gl with
  | [], g, g1, gl =>
    refine ⟨_, g, fun φ a w hfr hm => ?_⟩
    obtain ⟨vs, h1, h2⟩ := g1 φ a w hfr hm
    rw [RL_nil] at h2
    subst h2
    exact ⟨_, hres a w [] h1, RV_tup.2 ⟨_, rfl, by rw [RL_nil]⟩⟩
  | [x], g, g1, gl =>
    refine ⟨_, g, fun φ a w hfr hm => ?_⟩
    obtain ⟨vs, h1, h2⟩ := g1 φ a w hfr hm
    obtain ⟨u, r, rfl, h3, h4⟩ := RL_cons.1 h2
    rw [RL_nil] at h4
    subst h4
    exact ⟨_, hres a w [u] h1, h3⟩
  | x :: y :: l, g, g1, gl =>
    refine ⟨_, g, fun φ a w hfr hm => ?_⟩
    obtain ⟨vs, h1, h2⟩ := g1 φ a w hfr hm
    have hlen := (RL_get.1 h2).1
    refine ⟨_, hres a w vs h1, ?_⟩
    rw [dif_neg (by simp at hlen ⊢; omega)]
    exact RV_tup.2 ⟨_, rfl, by simpa using h2⟩
end Go.Proofs.YtkdjhegkcfmkoaaGreat.AM
namespace Go.Proofs.YtkdjhegkcfmkoaaGreat.AM
open Go.AM
set_option maxRecDepth 100000
/-- what is taken as known is so -/
def PrimsOk : Prop := ∀ g p, primF g = some p → ∀ l h (c : K2), p l h c = true → ∃ r h', c r h' = true ∧ h.nx.num ≤ h'.nx.num ∧
  ∀ (φ : Phi) (vs : Array Value) w (o : Oper) (a : Act) (next : Act → World → Prop) (Q : Exit → Act → World → Prop), Mem φ h w → RL φ l vs.toList →
    (∀ φ' w' r', Kept φ w φ' w' → Old h.nx.num φ φ' → Mem φ' h' w' → RV φ' r r' → next (a.put o.dst r') w') → o.upon Tryz.prog a next Q ((callFunc g vs).run Tryz.prog w)
/-- a function's body, ours and the model's -/
theorem body_ok (hid : IdleOk) {ev : Ev} (ih : CodeOk ev) {g M : Nat} {rs : List ResultVar} {b : Code} (hb : bodyOf g = some (M, rs, b)) {l : List AV} {h : H} {c : K2}
    (hh : (frameOf l Fr.none 0 fun F => ev b M F h fun x F h => retX M rs c x F h) = true) (hl : l.length ≤ 64) : ∃ r h', c r h' = true ∧ h.nx.num ≤ h'.nx.num ∧
    ∀ (φ : Phi) (vs : Array Value) w (R : Ending → World → Prop), Mem φ h w → RL φ l vs.toList → (∀ φ' w' r', Kept φ w φ' w' → Old h.nx.num φ φ' → Mem φ' h' w' → RV φ' r r' → R (.returned r') w') → Calls Tryz.prog g vs w R := by
  obtain ⟨fn, hf, hbody, rfl, hd, hM, hname⟩ := bodyOf_spec hb
  obtain ⟨F, g1, hfr⟩ := frame_args hl hh
  obtain ⟨x, F', h', g2, n1, s1⟩ := ih b M F h _ hM g1
  have fin : resK M fn.results.toList F' h' c = true ∧ ∀ (R : Ending → World → Prop) a w, Leaves Tryz.prog fn a.tmps R a.defers .returning w → bodyPostD Tryz.prog fn R (exitOf x) a w := by
    cases x with
    | normal => exact ⟨g2, fun R a w h => h⟩
    | ret => exact ⟨g2, fun R a w h => h⟩
    | exit id => cases g2
  obtain ⟨r, g3, g4⟩ := resK_ok fin.1
  refine ⟨r, h', g3, n1, fun φ vs w R hm hr hR => ?_⟩
  refine calls_of_wp_defers hf hbody (wpL.wp (s1 φ _ w _ (hfr M φ vs _ [] hM hr) hm (dstsIn_mono ?_ b hd) (by intro d hd; cases hd) (fun φ' a' w' p => ?_)))
  · simp; omega
  · obtain ⟨r', h1, h2⟩ := g4 φ' a' w' p.fr p.mem
    exact fin.2 R a' w' (leaves_idle hid h1 (hR φ' w' r' p.kept p.old p.mem h2) a'.defers p.idle)
theorem callB_ok (hid : IdleOk) (hpr : PrimsOk) {ev : Ev} (ih : CodeOk ev) : ClOk (callB ev) := by
  intro g l h c hh
  unfold callB at hh
  cases hp : primF g with
  | some p => rw [hp] at hh; exact hpr g p hp l h c hh
  | none =>
    rw [hp] at hh
    cases hb : bodyOf g with
    | none => rw [hb] at hh; cases hh
    | some q =>
      obtain ⟨M, rs, b⟩ := q
      rw [hb] at hh
      have hh : forceN M (fun M => Bool.rec false (frameOf l Fr.none 0 fun F => ev b M F h fun x F h => retX M rs c x F h) ((llen l).ble 64)) = true := hh
      rw [forceN_eq] at hh
      obtain ⟨e1, g1⟩ := boolRec_t hh
      have e1 := (ble_iff _ 64).1 e1
      rw [llen_eq] at e1
      obtain ⟨r, h', k1, k2, k3⟩ := body_ok hid ih hb g1 e1
      obtain ⟨fn, hf, hbody, _, _, _, hname⟩ := bodyOf_spec hb
      refine ⟨r, h', k1, k2, fun φ vs w o a next Q hm hr hn => ?_⟩
      have hne : fn.name ≠ "runtime.NumGoroutine" := by simpa using hname
      have hcf : (callFunc g vs).run Tryz.prog w = .ok (.enter g vs) w := by simp [callFunc, hf, hne, hbody]
      rw [hcf, Oper.upon_enter]
      exact k3 φ vs w _ hm hr (fun φ' w' r' q1 q2 q3 q4 => hn φ' w' r' q1 q2 q3 q4)
theorem evF_ok (hid : IdleOk) (hpr : PrimsOk) : ∀ n, CodeOk (evF n)
  | 0 => fun c M F h k _ hh => by cases hh
  | n + 1 => fun c => code_step (evF_ok hid hpr n) (callB_ok hid hpr (evF_ok hid hpr n)) c
/-- what our machine says of a call holds of the model's -/
theorem callF_ok (hid : IdleOk) (hpr : PrimsOk) (n : Nat) : ClOk (callF n) := callB_ok hid hpr (evF_ok hid hpr n)
end Go.Proofs.YtkdjhegkcfmkoaaGreat.AM
namespace Go.Proofs.YtkdjhegkcfmkoaaGreat.AM
open Go.AM
set_option maxRecDepth 100000
theorem ta_none {t s : Nat} (h : mkI t = true) (hz : (zvK t).isSome = true) : ∃ z, ∀ w, (Instr.typeAssert .nilIface s t true).run Tryz.prog w = .ok (.tuple #[z, .bool false]) w := by
  obtain ⟨d, hd, _⟩ := mkI_spec h
  cases hk : zvK t with
  | none => rw [hk] at hz; cases hz
  | some k =>
    obtain ⟨i, z, hi, hzz, _⟩ := zvK_spec hk
    exact ⟨z, fun w => run_ta_nil hd w (fun w => run_zeroValue' hi hzz w)⟩
theorem idle_caught (args : Array Value) (w : World) : CallsD Tryz.prog 78 args .returning w fun e u w' => (∃ v, e = .returned v) ∧ u = .returning ∧ w' = w := by
  obtain ⟨z, hta⟩ := ta_none (t := 32) (s := 20) (by kernel_rfl) (by kernel_rfl)
  have hs : ∀ k, k < 10 → k < args.size + (10 - args.size) := fun k hk => by omega
  have h1 := hs 1 (by decide); have h2 := hs 2 (by decide); have h3 := hs 3 (by decide); have h4 := hs 4 (by decide); have h5 := hs 5 (by decide)
  have h6 := hs 6 (by decide); have h7 := hs 7 (by decide); have h8 := hs 8 (by decide); have h9 := hs 9 (by decide)
  refine callsD_of_wpS Tryz.func78 rfl fun c₀ cs hu => ?_
  apply wpS_seq
  apply wpS_region
  simp [wpOpsS, go_sem, recoverD, hu, Exit.thenS, h1, h2, h3, h4, h5, h6, h7, h8, h9, hta]
  apply wpS_seq
  apply wpS_region
  simp [wpOpsS, go_sem, hu, Exit.thenS, h1, h2, h3, h4, h5, h6, h7, h8, h9]
  refine wpS_cond (t := false) (by simp [Act.eval, h2, h8]) ?_
  refine wpS_of_wp (wp_skip ?_)
  refine ⟨rfl, .returning, ?_, .tuple #[], ?_, ⟨_, rfl⟩, rfl, rfl⟩
  · cases c₀; simp at hu; subst hu; rfl
  · simp [results]
theorem idle_lay (args : Array Value) (w : World) : CallsD Tryz.prog 301 args .returning w fun e u w' => (∃ v, e = .returned v) ∧ u = .returning ∧ w' = w := by
  obtain ⟨z, hta⟩ := ta_none (t := 32) (s := 20) (by kernel_rfl) (by kernel_rfl)
  have hs : ∀ k, k < 10 → k < args.size + (10 - args.size) := fun k hk => by omega
  have h1 := hs 1 (by decide); have h2 := hs 2 (by decide); have h3 := hs 3 (by decide); have h4 := hs 4 (by decide); have h5 := hs 5 (by decide)
  have h6 := hs 6 (by decide); have h7 := hs 7 (by decide); have h8 := hs 8 (by decide); have h9 := hs 9 (by decide)
  refine callsD_of_wpS Tryz.func301 rfl fun c₀ cs hu => ?_
  apply wpS_seq
  apply wpS_region
  simp [wpOpsS, go_sem, recoverD, hu, Exit.thenS, h1, h2, h3, h4, h5, h6, h7, h8, h9, hta]
  apply wpS_seq
  apply wpS_region
  simp [wpOpsS, go_sem, hu, Exit.thenS, h1, h2, h3, h4, h5, h6, h7, h8, h9]
  refine wpS_cond (t := false) (by simp [Act.eval, h2, h8]) ?_
  refine wpS_of_wp (wp_skip ?_)
  refine ⟨rfl, .returning, ?_, .tuple #[], ?_, ⟨_, rfl⟩, rfl, rfl⟩
  · cases c₀; simp at hu; subst hu; rfl
  · simp [results]
end Go.Proofs.YtkdjhegkcfmkoaaGreat.AM
namespace Go.Proofs.YtkdjhegkcfmkoaaGreat.AM
open Go.AM
set_option maxRecDepth 100000
theorem idle_all (args : Array Value) (w : World) : CallsD Tryz.prog 377 args .returning w fun e u w' => (∃ v, e = .returned v) ∧ u = .returning ∧ w' = w := by
  have hs : ∀ k, k < 10 → k < args.size + (10 - args.size) := fun k hk => by omega
  have h1 := hs 1 (by decide); have h2 := hs 2 (by decide); have h3 := hs 3 (by decide); have h4 := hs 4 (by decide); have h5 := hs 5 (by decide)
  have h6 := hs 6 (by decide); have h7 := hs 7 (by decide); have h8 := hs 8 (by decide); have h9 := hs 9 (by decide)
  refine callsD_of_wpS Tryz.func377 rfl fun c₀ cs hu => ?_
  apply wpS_seq
  apply wpS_region
  simp [wpOpsS, go_sem, recoverD, hu, Exit.thenS, h1, h2, h3, h4, h5, h6, h7, h8, h9]
  refine wpS_of_wp (wp_block (wp_seq (wp_region ?_)))
  simp [wpOps, Oper.wp, go_sem, Exit.then, h1, h2, h3, h4, h5, h6, h7, h8, h9]
  refine Or.inl (wp_cond_true (by simp [Act.eval, h5]) (wp_region ?_))
  simp [wpOps, Oper.wp, go_sem, h1, h2, h3, h4, h5, h6, h7, h8, h9]
  refine Or.inl ⟨rfl, .returning, ?_, .tuple #[], ?_, ⟨_, rfl⟩, rfl, rfl⟩
  · cases c₀; simp at hu; subst hu; rfl
  · simp [results]
/-- the idle functions do nothing -/
theorem idleOk : IdleOk := by
  intro g args w h
  rcases idleF_spec h with rfl | rfl | rfl
  · exact idle_caught args w
  · exact idle_lay args w
  · exact idle_all args w
end Go.Proofs.YtkdjhegkcfmkoaaGreat.AM
