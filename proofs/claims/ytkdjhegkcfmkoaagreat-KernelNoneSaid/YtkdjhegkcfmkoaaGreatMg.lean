/- The abstract machine over this program: append, what it does to memory. -/
import Derived.Test.YtkdjhegkcfmkoaaGreatMf
namespace Go.Proofs.YtkdjhegkcfmkoaaGreat.AM
open Go.AM
set_option maxRecDepth 100000
theorem cellsS_eq (l : List Nat) (k : KL) : cellsS l k = k (l.map fun a => .int .u8 (Int.ofNat a)) := by
  induction l generalizing k with
  | nil => rfl
  | cons a t ih => exact ih (fun l => k (.int .u8 (Int.ofNat a) :: l))
theorem RL_bytes (φ : Phi) (s : ByteArray) : RL φ ((strL s).map fun a => AV.int .u8 (Int.ofNat a)) (byteCells s) := by
  unfold byteCells strL
  rw [List.map_map]
  generalize s.data.toList = l
  induction l with
  | nil => rw [List.map_nil, List.map_nil, RL_nil]
  | cons a t ih => rw [List.map_cons, List.map_cons, RL_cons]; exact ⟨_, _, rfl, RV_int.2 rfl, ih⟩
variable {h : H}
/-- what is appended, ours and the model's -/
theorem src_ok {x : AV} {e : Nat} {k : Nat → List AV → Bool} (hh : srcOf x e h k = true) : ∃ n l, k n l = true ∧ ∀ (φ : Phi) v w u, Mem φ h w → RV φ x v → ((∃ e', Tryz.prog.underlying u = some (.slice e')) ∨ Tryz.prog.underlying u = some .string) →
    ∃ news, Src Tryz.prog e u v n news w ∧ RL φ l news ∧ One news ∧ news.length = n * e := by
  unfold srcOf at hh
  obtain ⟨a, rfl, g⟩ := onAt_spec hh
  have empty : ∀ (φ : Phi) (v : Value) (w : World) (u : Nat), (∃ a k, v = .slice a 0 k) → ((∃ e', Tryz.prog.underlying u = some (.slice e')) ∨ Tryz.prog.underlying u = some .string) →
      ∃ news, Src Tryz.prog e u v 0 news w ∧ RL φ [] news ∧ One news ∧ news.length = 0 * e := by
    rintro φ v w u ⟨a, kk, rfl⟩ hk
    refine ⟨[], ?_, by rw [RL_nil], by (intro y hy; cases hy), by simp⟩
    cases a with
    | none => exact ⟨hk, fun _ => rfl, run_firstCells_none w e 0 0 kk, run_firstCells_none w.drew e 0 0 kk, by simp, fun _ h => by cases h⟩
    | some a => exact ⟨hk, fun _ => rfl, run_firstCells_some w e 0 a 0 kk [] (by simp) (fun j u hj => by simp at hj), run_firstCells_some w.drew e 0 a 0 kk [] (by simp) (fun j u hj => by simp at hj), by simp, fun _ h => by cases h⟩
  cases a with
  | nils => exact ⟨0, [], g, fun φ v w u _ hv hk => empty φ v w u ⟨none, 0, RV_at.1 hv⟩ hk⟩
  | sz => exact ⟨0, [], g, fun φ v w u _ hv hk => empty φ v w u (RV_at.1 hv) hk⟩
  | str n l =>
    obtain ⟨e1, g1⟩ := boolRec_t g
    have e1 := (beq_iff _ _).1 e1
    subst e1
    rw [cellsS_eq] at g1
    refine ⟨n, _, g1, fun φ v w u _ hv hk => ?_⟩
    obtain ⟨s, rfl, rfl, rfl⟩ := RV_at.1 hv
    refine ⟨byteCells s, ⟨hk, fun _ => rfl, firstCells_string s w, firstCells_string s w.drew, by rw [byteCells_length, Nat.mul_one], ?_⟩, RL_bytes φ s, ?_, by rw [byteCells_length, Nat.mul_one]⟩ <;>
    · intro y hy
      obtain ⟨_, _, rfl⟩ := List.mem_map.1 hy
      rfl
  | sl b o n kk e' =>
    obtain ⟨e1, g1⟩ := boolRec_t g
    have e1 := (beq_iff _ _).1 e1
    subst e1
    obtain ⟨bn, r, t, hB, hp, g2⟩ := loadA_spec g1
    obtain ⟨l, g3, hrow⟩ := rowAt_spec g2
    refine ⟨n, l, g3, fun φ v w u hm hv hk => ?_⟩
    obtain ⟨cc, d, m, kc, h2, rfl, h4⟩ := RV_sl hv
    obtain ⟨vs, h5, h6, h7, h8⟩ := Mem.cells hm h2 hB hp hrow
    have h5 : vs.length = n * e := h5
    exact ⟨vs, ⟨hk, fun _ => rfl, run_firstCells_some w e n _ n kc vs h5 h8, run_firstCells_some w.drew e n _ n kc vs h5 (by simpa using h8), h5, h7⟩, h6, h7, h5⟩
  | _ => cases g
/-- the cells that are there already, and the rows that take them and more -/
structure More (φ : Phi) (w : World) (c p n0 e m : Nat) (t : Rws) (l : List AV) (olds : List Value) : Prop where
  len : olds.length = n0 * e
  one : One olds
  cells : ∀ (j : Nat) v, olds[j]? = some v → w.cell? ((⟨c, p, none⟩ : Addr).add j) = some v
  cap : m ≤ t.cap
  rows : ∀ i, i < t.cap → (t.at i).length ≤ e
  old : ∀ q, q < n0 * e → ∃ v x, cellAt e t q = some v ∧ olds[q]? = some x ∧ RV φ v x
  new : ∀ q, n0 * e ≤ q → q < m * e → cellAt e t q = l[q - n0 * e]?
theorem RV_flex (φ : Phi) (b : Nm) (c d m n k e : Nat) (hn : n ≤ k) (hk : k * e = m) : RV (φ.new b (c, d, m)) (.at (.sl b 0 n none e)) (.slice (some ⟨c, d, none⟩) n k) :=
  RV_at.2 ⟨c, d, m, k, Phi.new_same _ _ _, rfl, hn, by rw [Nat.zero_add]; exact hk⟩
/-- a new row -/
theorem grown_ok {φ : Phi} {h1 h' : H} {w : World} {c p n0 e m n : Nat} {t : Rws} {l : List AV} {olds news : List Value} {el cap : Nat} {zs : Array Value} (hm : Mem φ h1 w) (he : 1 ≤ e) (hmn : m = n0 + n) (hM : More φ w c p n0 e m t l olds)
    (hn : RL φ l news) (ho : One news) (hnl : news.length = n * e) (hcap : m ≤ cap) (hz : zs.size = (cap - m) * e) (k1 : h'.nx.num = h1.nx.num + 1) (k2 : ∀ x, h'.at x = if h1.nx = x then .mk (m * e) e t else h1.at x) :
    ∃ φ', Kept φ w φ' (w.drew.alloc (.cells ((olds ++ news).toArray ++ zs) el)) ∧ Old h1.nx.num φ φ' ∧ Mem φ' h' (w.drew.alloc (.cells ((olds ++ news).toArray ++ zs) el)) ∧ RV φ' (.at (.sl h1.nx 0 m none e)) (.slice (some ⟨w.heap.size, 0, none⟩) m cap) := by
  have hf : φ h1.nx = none := hm.fresh _ (Nat.le_refl _)
  have hl := Phi.le_new (w.heap.size, 0, cap * e) hf
  have hme : m * e = n0 * e + n * e := by rw [hmn, Nat.add_mul]
  have hsz : ((olds ++ news).toArray ++ zs).size = cap * e := by
    rw [Array.size_append, List.size_toArray, List.length_append, hM.len, hnl, hz, ← hme, ← Nat.add_mul]
    congr 1; omega
  have hle : m * e ≤ cap * e := Nat.mul_le_mul_right e hcap
  have hcell : ∀ q, q < m * e → ((olds ++ news).toArray ++ zs)[q]? = (olds ++ news)[q]? := fun q hq => by
    rw [Array.getElem?_append_left (by rw [List.size_toArray, List.length_append, hM.len, hnl]; omega), List.getElem?_toArray]
  obtain ⟨m1, m2⟩ := hm.drew.new k1 k2 (.cells ((olds ++ news).toArray ++ zs) el) (cap * e) (by
    have := blk_new (φ := φ.new h1.nx (w.heap.size, 0, cap * e)) (w := w.drew) (cs := (olds ++ news).toArray ++ zs) (ty := el) (n := m * e) (r := e) (t := t) (by rw [hsz]; exact hle) he (by rw [Nat.mul_comm]; exact Nat.mul_le_mul_left e hM.cap) hM.rows (fun q hq => by
      rw [hcell q hq]
      by_cases hq0 : q < n0 * e
      · obtain ⟨v, x, a1, a2, a3⟩ := hM.old q hq0
        refine ⟨v, x, a1, ?_, RV.mono hl _ _ a3, hM.one x (List.mem_of_getElem? a2)⟩
        rw [List.getElem?_append_left (by rw [hM.len]; exact hq0)]; exact a2
      · have hln : l.length = n * e := by rw [(RL_get.1 hn).1, hnl]
        obtain ⟨x, a1, a2⟩ := RL_at hn (List.getElem?_eq_getElem (show q - n0 * e < l.length by omega))
        refine ⟨_, x, by rw [hM.new q (by omega) hq]; exact List.getElem?_eq_getElem _, ?_, RV.mono hl _ _ a2, ho x (List.mem_of_getElem? a1)⟩
        rw [List.getElem?_append_right (by rw [hM.len]; omega), hM.len]; exact a1)
    rw [hsz] at this
    exact this)
  exact ⟨_, (Kept.drew φ w).trans m2, Old.new _ _ _, m1, RV_flex _ _ _ _ _ _ _ _ hcap rfl⟩
/-- more cells behind those that are there -/
theorem room_ok {φ : Phi} {h h' : H} {w : World} {b : Nm} {c d mm bn r n0 e m n o kk : Nat} {tt t : Rws} {l : List AV} {olds news : List Value} (hm : Mem φ h w) (hb : φ b = some (c, d, mm)) (hB : h.at b = .mk bn r tt) (he : 1 ≤ e) (hmn : m = n0 + n)
    (hM : More φ w c (d + o) n0 e m t l olds) (hn : RL φ l news) (ho : One news) (hnl : news.length = n * e) (hk : o + kk * e = mm) (hroom : m ≤ kk) (hre : r = 1 → e = 1)
    (k1 : h'.nx.num = h.nx.num + 1) (k2 : ∀ x, h'.at x = if h.nx = x then .mk (m * e) e t else if b = x then .no else h.at x) :
    ∃ φ', Kept φ w φ' (w.setCells c (d + o + n0 * e) news) ∧ Old h.nx.num φ φ' ∧ Mem φ' h' (w.setCells c (d + o + n0 * e) news) ∧ RV φ' (.at (.sl h.nx 0 m none e)) (.slice (some ⟨c, d + o, none⟩) m kk) := by
  have hf : φ h.nx = none := hm.fresh _ (Nat.le_refl _)
  have hl := Phi.le_new (c, d + o, kk * e) hf
  have hme : m * e = n0 * e + n * e := by rw [hmn, Nat.add_mul]
  have hle : m * e ≤ kk * e := Nat.mul_le_mul_right e hroom
  obtain ⟨_, _, _, _, e5⟩ := Mem.cells_there hm hb hB
  have hin : ∀ j, j < news.length → (w.cell? ⟨c, d + o + n0 * e + j, none⟩).isSome = true := fun j hj => by
    have := (e5 (o + n0 * e + j) (by omega)).1
    rwa [show d + (o + n0 * e + j) = d + o + n0 * e + j by omega] at this
  obtain ⟨m1, m2⟩ := hm.over (w' := w.setCells c (d + o + n0 * e) news) hb (by rw [hB]; intro e; cases e) k1 k2 (size_setCells' _ _ _ _) (fun x h1 h2 => World.heap_setCells_other w c _ news h1 h2) (rest_setCells _ _ _ _) (d + o) (kk * e) (by
    refine ⟨hle, he, by rw [Nat.mul_comm]; exact Nat.mul_le_mul_left e hM.cap, hM.rows, fun q hq => ?_, fun j hj => ?_, (Mem.mark hm hb hB).imp hre (fun h k => by rw [World.frozen?_setCells]; exact h k)⟩
    · by_cases hq0 : q < n0 * e
      · obtain ⟨v, x, a1, a2, a3⟩ := hM.old q hq0
        refine ⟨v, x, a1, ?_, RV.mono hl _ _ a3, hM.one x (List.mem_of_getElem? a2)⟩
        rw [World.cell?_setCells_out c news (d + o + n0 * e) w _ (fun _ _ => by show d + o + q < d + o + n0 * e ∨ _; omega)]
        have := hM.cells q x a2
        rwa [add_eq] at this
      · have hln : l.length = n * e := by rw [(RL_get.1 hn).1, hnl]
        have hqn : q - n0 * e < news.length := by omega
        have hcell := World.cell?_setCells_in c news (d + o + n0 * e) w hin (q - n0 * e) hqn
        rw [show d + o + n0 * e + (q - n0 * e) = d + o + q by omega] at hcell
        obtain ⟨x, a1, a2⟩ := RL_at hn (List.getElem?_eq_getElem (show q - n0 * e < l.length by omega))
        rw [List.getElem?_eq_getElem hqn] at a1
        injection a1 with a1
        have hql : q - n0 * e < l.length := by omega
        refine ⟨l[q - n0 * e], news[q - n0 * e], by rw [show (t.at (q / e))[q % e]? = cellAt e t q from rfl, hM.new q (by omega) hq]; exact List.getElem?_eq_getElem hql, hcell, ?_, ho _ (List.getElem_mem _)⟩
        rw [a1]; exact RV.mono hl _ _ a2
    · have e6 := e5 (o + j) (by omega)
      rw [← Nat.add_assoc] at e6
      rw [World.frozen?_setCells]
      refine ⟨?_, e6.2⟩
      by_cases hj1 : n0 * e ≤ j ∧ j < n0 * e + news.length
      · have hcell := World.cell?_setCells_in c news (d + o + n0 * e) w hin (j - n0 * e) (by omega)
        rw [show d + o + n0 * e + (j - n0 * e) = d + o + j by omega] at hcell
        rw [hcell]; rfl
      · rw [World.cell?_setCells_out c news (d + o + n0 * e) w _ (fun _ _ => by show d + o + j < d + o + n0 * e ∨ d + o + n0 * e + news.length ≤ d + o + j; omega)]
        exact e6.1)
  exact ⟨_, m2, Old.new _ _ _, m1, RV_flex _ _ _ _ _ _ _ _ hroom rfl⟩
end Go.Proofs.YtkdjhegkcfmkoaaGreat.AM
namespace Go.Proofs.YtkdjhegkcfmkoaaGreat.AM
open Go.AM
set_option maxRecDepth 100000
variable {h : H} {c : K2}
theorem okRE_spec {r e : Nat} (hh : okRE r e = true) : r = 1 → e = 1 := fun h => by
  subst h
  exact (beq_iff _ _).1 (show e.beq 1 = true from hh)
theorem more_rows {φ : Phi} {w : World} {cc p n0 e m n : Nat} {t : Rws} {l0 l : List AV} {olds news : List Value} (hl : RL φ l0 olds) (h1 : One olds) (ho : olds.length = n0 * e) (hc : ∀ (j : Nat) v, olds[j]? = some v → w.cell? ((⟨cc, p, none⟩ : Addr).add j) = some v)
    (hn : RL φ l news) (hnl : news.length = n * e) (hmn : m = n0 + n) (he : 1 ≤ e) (ht : 1 ≤ e → (l0 ++ l).length = m * e → m ≤ t.cap ∧ (∀ i, i < t.cap → (t.at i).length ≤ e) ∧ ∀ o, o < m * e → cellAt e t o = (l0 ++ l)[o]?) : More φ w cc p n0 e m t l olds := by
  have h2 : l0.length = n0 * e := by rw [(RL_get.1 hl).1, ho]
  have h3 : l.length = n * e := by rw [(RL_get.1 hn).1, hnl]
  have hme : m * e = n0 * e + n * e := by rw [hmn, Nat.add_mul]
  obtain ⟨a1, a2, a3⟩ := ht he (by rw [List.length_append, h2, h3, hme])
  refine ⟨ho, h1, hc, a1, a2, fun q hq => ?_, fun q hq hq2 => ?_⟩
  · obtain ⟨x, b1, b2⟩ := RL_at hl (List.getElem?_eq_getElem (show q < l0.length by omega))
    exact ⟨_, x, by rw [a3 q (by omega), List.getElem?_append_left (by omega)]; exact List.getElem?_eq_getElem _, b1, b2⟩
  · rw [a3 q hq2, List.getElem?_append_right (by omega), h2]
/-- a slice in a row of its own, longer -/
theorem longer_ok {t u ty el e : Nat} {z : List AV} {i : TypeInfo} {zv xv : Value} (ht : ElemT t el e z i zv) {φ : Phi} {h' : H} {w : World} {b : Nm} {cc d mm bn r n0 m n o kk : Nat} {tt tn : Rws} {l : List AV} {olds news : List Value} (hm : Mem φ h w) (hb : φ b = some (cc, d, mm)) (hB : h.at b = .mk bn r tt)
    (hmn : m = n0 + n) (hm6 : m ≤ 1000000) (hM : More φ w cc (d + o) n0 e m tn l olds) (hn : RL φ l news) (ho : One news) (hnl : news.length = n * e) (hk : o + kk * e = mm) (hre : r = 1 → e = 1)
    (k1 : h'.nx.num = h.nx.num + 1) (k2 : ∀ x, h'.at x = if h.nx = x then .mk (m * e) e tn else (h.put b .no).at x) (ha : App t u ty i el zv xv n news w) :
    Out h h' φ w (Builtin.append_ #[t, u] ty #[.slice (some ⟨cc, d + o, none⟩) n0 kk, xv]) (.at (.sl h.nx 0 m none e)) := by
  have he := ht.pos
  have hme : m * e = n0 * e + n * e := by rw [hmn, Nat.add_mul]
  by_cases hroom : m ≤ kk
  · obtain ⟨φ', q1, q2, q3, q4⟩ := room_ok hm hb hB he hmn hM hn ho hnl hk hroom hre k1 (fun x => by rw [k2, H.at_put])
    obtain ⟨_, _, _, _, e5⟩ := Mem.cells_there hm hb hB
    have hle : m * e ≤ kk * e := Nat.mul_le_mul_right e hroom
    have hr := ha.room cc (d + o) n0 kk (by omega) (fun j hj => by
      rw [ht.size]
      have := (e5 (o + n0 * e + j) (by omega)).1
      rwa [show d + (o + n0 * e + j) = d + o + n0 * e + j by omega] at this) (fun j hj => by
      rw [ht.size]
      have := (e5 (o + n0 * e + j) (by omega)).2
      rwa [show d + (o + n0 * e + j) = d + o + n0 * e + j by omega] at this)
    rw [ht.size, ← hmn] at hr
    exact ⟨φ', _, _, hr, q1, q2, q3, q4⟩
  · have hgc := grownCap_ge w m kk el
    obtain ⟨φ', q1, q2, q3, q4⟩ := grown_ok (el := el) (hm.kill b) he hmn hM hn ho hnl hgc (zs := Builtin.zeroCells zv.cells (grownCap w m kk el - m)) (by rw [size_zeroCells, ht.cells]) k1 k2
    have hf := run_firstCells_some (P := Tryz.prog) w.drew e n0 ⟨cc, d + o, none⟩ n0 kk olds hM.len (by simpa using hM.cells)
    have hr := ha.grow (some ⟨cc, d + o, none⟩) n0 kk olds (by rw [ht.size]; exact hf) (by omega) (by omega)
    rw [← hmn] at hr
    exact ⟨φ', _, _, hr, q1, q2, q3, q4⟩
theorem appendTo_ok {t u ty el e : Nat} {z : List AV} {i : TypeInfo} {zv : Value} (ht : ElemT t el e z i zv) {s : AV} {n : Nat} {l : List AV} (hh : appendTo s e n l h c = true) : ∃ r h', c r h' = true ∧ h.nx.num ≤ h'.nx.num ∧
    ∀ (φ : Phi) w sv xv news, Mem φ h w → RV φ s sv → RL φ l news → One news → news.length = n * e → App t u ty i el zv xv n news w → Out h h' φ w (Builtin.append_ #[t, u] ty #[sv, xv]) r := by
  have he := ht.pos
  have cancel : ∀ {x y : Nat}, x * e ≤ y * e → x ≤ y := fun {x y} hxy => Nat.le_of_mul_le_mul_right hxy (by omega)
  unfold appendTo at hh
  cases hn0 : n.beq 0 with
  | true =>
    rw [hn0] at hh
    have hn0 := (beq_iff _ _).1 hn0
    have hh : AV.onSl s (fun _ _ _ _ _ => c s h) (c s h) (c s h) = true := hh
    have key : c s h = true ∧ ∀ (φ : Phi) sv, RV φ s sv → ∃ a len cap, sv = .slice a len cap ∧ len ≤ cap := by
      rcases onSl_spec hh with ⟨b, o, k, cp, e', rfl, g⟩ | ⟨rfl, g⟩ | ⟨rfl, g⟩
      · exact ⟨g, fun φ sv hs => by obtain ⟨_, _, _, kk, _, h1, h2⟩ := RV_sl hs; exact ⟨_, _, _, h1, h2⟩⟩
      · exact ⟨g, fun φ sv hs => ⟨none, 0, 0, RV_at.1 hs, Nat.le_refl _⟩⟩
      · exact ⟨g, fun φ sv hs => by obtain ⟨a, k, h1⟩ := RV_at.1 hs; exact ⟨a, 0, k, h1, Nat.zero_le _⟩⟩
    refine ⟨s, h, key.1, Nat.le_refl _, fun φ w sv xv news hm hs _ _ _ ha => ?_⟩
    obtain ⟨a, len, cap, rfl, hle⟩ := key.2 φ sv hs
    exact ⟨φ, w, _, ha.nothing hn0 a len cap hle, Kept.refl _ _, Old.refl _ _, hm, hs⟩
  | false =>
    rw [hn0] at hh
    rcases onSl_spec hh with ⟨b, o, n0, k, e', rfl, g⟩ | ⟨rfl, g⟩ | ⟨rfl, g⟩
    · obtain ⟨e1, g1⟩ := boolRec_t g
      have e1 := (beq_iff _ _).1 e1
      subst e1
      rw [forceN_eq] at g1
      obtain ⟨e2, g2⟩ := boolRec_t g1
      have e2 : n0 + n ≤ 1000000 := (ble_iff _ 1000000).1 e2
      have hme : (n0 + n) * e = n0 * e + n * e := Nat.add_mul _ _ _
      cases k with
      | none =>
        have g2 : moreOf b o n0 e (n0 + n) l h c = true := g2
        unfold moreOf at g2
        rw [getB_eq] at g2
        obtain ⟨bn, r, tt, hB, g3⟩ := onMk_spec g2
        cases hroom : (o.add ((n0 + n).mul e)).ble bn with
        | true =>
          rw [hroom] at g3
          have hroom : o + (n0 + n) * e ≤ bn := (ble_iff _ _).1 hroom
          obtain ⟨bn', r', tt', uu, hB', hp, g4, hlaid⟩ := storeA_spec (show storeA h b (o + n0 * e) l (fun h => c (.at (.sl b o (n0 + n) none e)) h) = true from g3)
          rw [hB] at hB'
          injection hB' with i1 i2 i3
          subst i1; subst i2; subst i3
          refine ⟨_, _, g4, Nat.le_refl _, fun φ w sv xv news hm hs hn ho hnl ha => ?_⟩
          obtain ⟨cc, d, mm, kk, hb, rfl, hk1, hk2⟩ := RV_at.1 hs
          obtain ⟨e0, _, _, _, e5⟩ := Mem.cells_there hm hb hB
          obtain ⟨_, q2, q3⟩ := store_ok hm hb hB hn ho hp hlaid
          have hle : n0 + n ≤ kk := cancel (by omega)
          have hr := ha.room cc (d + o) n0 kk hle (fun j hj => by
            rw [ht.size]
            have := (e5 (o + n0 * e + j) (by omega)).1
            rwa [show d + (o + n0 * e + j) = d + o + n0 * e + j by omega] at this) (fun j hj => by
            rw [ht.size]
            have := (e5 (o + n0 * e + j) (by omega)).2
            rwa [show d + (o + n0 * e + j) = d + o + n0 * e + j by omega] at this)
          rw [ht.size, show d + o + n0 * e = d + (o + n0 * e) by omega] at hr
          exact ⟨φ, _, _, hr, q3, Old.refl _ _, q2, RV_at.2 ⟨cc, d, mm, kk, hb, rfl, hle, hk2⟩⟩
        | false =>
          rw [hroom] at g3
          cases hown : (Bool.rec false (Bool.rec false (r.beq e) (bn.beq (n0.mul e))) (o.beq 0) : Bool) with
          | true =>
            have ga : (Bool.rec _ (Rws.grow tt (n0 + n) [] fun t => stC e l t (n0.mul e) fun t => putB h b .no fun h => forceN ((n0 + n).mul e) fun bn => newB h (.mk bn e t) fun i h => c (.at (.sl i 0 (n0 + n) none e)) h) (Bool.rec false (Bool.rec false (r.beq e) (bn.beq (n0.mul e))) (o.beq 0) : Bool) : Bool) = true := g3
            rw [hown] at ga
            clear g3
            obtain ⟨f1, hown1⟩ := boolRec_t hown
            obtain ⟨f2, f3⟩ := boolRec_t hown1
            have f1 := (beq_iff _ _).1 f1
            have f2 : bn = n0 * e := (beq_iff _ _).1 f2
            have f3 := (beq_iff _ _).1 f3
            subst f1; subst f2; subst f3
            obtain ⟨u1, v1, v2, v3, v4, v5⟩ := Rws.grow_spec ga
            obtain ⟨u2, v6, hlaid⟩ := stC_spec l u1 _ _ v5
            rw [putB_eq, forceN_eq] at v6
            obtain ⟨h', k1, k2, k3⟩ := newB_spec v6
            refine ⟨_, h', k3, by rw [k1]; exact Nat.le_succ _, fun φ w sv xv news hm hs hn ho hnl ha => ?_⟩
            obtain ⟨cc, d, mm, kk, hb, rfl, hk1, hk2⟩ := RV_at.1 hs
            have hblk := hm.blk b cc d mm hb
            rw [hB] at hblk
            obtain ⟨e0, _, e2', e3, e4, e5, _⟩ := hblk
            have hln : l.length = n * r := by rw [(RL_get.1 hn).1, hnl]
            have hcap : (n0 + n) * r ≤ r * u1.cap := by rw [Nat.mul_comm]; exact Nat.mul_le_mul_left r v1
            obtain ⟨w1, w2, w3⟩ := hlaid he (by show n0 * r + l.length ≤ _; omega) (fun i hi => by
              by_cases hi2 : i < tt.cap
              · rw [v3 i hi2]; exact e3 i hi2
              · rw [v4 i (by omega) hi]; simp)
            have hold : ∀ q, q < n0 * r → ∃ v x, cellAt r u2 q = some v ∧ w.cell? ⟨cc, d + q, none⟩ = some x ∧ RV φ v x ∧ x.oneCell' = true := fun q hq => by
              obtain ⟨v, x, a1, a2, a3, a4⟩ := e4 q hq
              refine ⟨v, x, ?_, a2, a3, a4⟩
              rw [w3 q (by omega), if_neg (by show ¬ (n0 * r ≤ q ∧ _); omega)]
              unfold cellAt
              rw [v3 (q / r) (by rw [Nat.div_lt_iff_lt_mul (by omega), Nat.mul_comm]; omega)]
              exact a1
            have hM : More φ w cc (d + 0) n0 r (n0 + n) u2 l ((List.range (n0 * r)).map fun q => (w.cell? ⟨cc, d + q, none⟩).getD undef) := by
              refine ⟨by simp, ?_, ?_, by rw [w1]; exact v1, w2, fun q hq => ?_, fun q hq hq2 => ?_⟩
              · intro y hy
                simp only [List.mem_map, List.mem_range] at hy
                obtain ⟨q, hq, rfl⟩ := hy
                obtain ⟨v, x, _, a2, _, a4⟩ := hold q hq
                rw [a2]; exact a4
              · intro j v hj
                have hq : j < n0 * r := by have := (List.getElem?_eq_some_iff.1 hj).1; simpa using this
                obtain ⟨v', x, _, a2, _, _⟩ := hold j hq
                simp [hq, a2] at hj
                subst hj
                rw [add_eq]; exact a2
              · obtain ⟨v, x, a1, a2, a3, _⟩ := hold q hq
                exact ⟨v, x, a1, by simp [hq, a2], a3⟩
              · rw [w3 q (by omega), if_pos (by show n0 * r ≤ q ∧ q < n0 * r + l.length; omega)]
                rfl
            exact longer_ok ht hm hb hB rfl e2 hM hn ho hnl (by omega) id k1 k2 ha
          | false =>
            have gb : (Bool.rec (Bool.rec false (loadA h b o (n0.mul e) fun l0 => lappK l0 l fun l => putB h b .no fun h => rowsB (n0 + n) e [] l h fun i h => c (.at (.sl i 0 (n0 + n) none e)) h) (okRE r e)) _ (Bool.rec false (Bool.rec false (r.beq e) (bn.beq (n0.mul e))) (o.beq 0) : Bool) : Bool) = true := g3
            rw [hown] at gb
            clear g3
            obtain ⟨gre, gb⟩ := boolRec_t gb
            have hre := okRE_spec gre
            obtain ⟨bn', r', tt', hB', hp, g4⟩ := loadA_spec gb
            rw [hB] at hB'
            injection hB' with i1 i2 i3
            subst i1; subst i2; subst i3
            obtain ⟨l0, g5, hrow⟩ := rowAt_spec g4
            rw [lappK_eq, putB_eq] at g5
            obtain ⟨u1, g6, hu1⟩ := rowsBlk_spec g5
            obtain ⟨h', k1, k2, k3⟩ := newB_spec g6
            refine ⟨_, h', k3, by rw [k1]; exact Nat.le_succ _, fun φ w sv xv news hm hs hn ho hnl ha => ?_⟩
            obtain ⟨cc, d, mm, kk, hb, rfl, hk1, hk2⟩ := RV_at.1 hs
            obtain ⟨vs, h5, h6, h7, h8⟩ := Mem.cells hm hb hB hp hrow
            exact longer_ok ht hm hb hB rfl e2 (more_rows h6 h7 h5 h8 hn hnl rfl he hu1) hn ho hnl hk2 hre k1 k2 ha
      | some k =>
        cases hroom : (n0 + n).ble k with
        | true =>
          have g2 : (Bool.rec _ (storeA h b (o.add (n0.mul e)) l fun h => c (.at (.sl b o (n0 + n) (some k) e)) h) ((n0 + n).ble k) : Bool) = true := g2
          rw [hroom] at g2
          have hroom : n0 + n ≤ k := (ble_iff _ _).1 hroom
          obtain ⟨bn, r, tt, uu, hB, hp, g4, hlaid⟩ := storeA_spec (show storeA h b (o + n0 * e) l (fun h => c (.at (.sl b o (n0 + n) (some k) e)) h) = true from g2)
          refine ⟨_, _, g4, Nat.le_refl _, fun φ w sv xv news hm hs hn ho hnl ha => ?_⟩
          obtain ⟨cc, d, mm, hb, rfl, hk1⟩ := RV_at.1 hs
          obtain ⟨e0, _, _, _, e5⟩ := Mem.cells_there hm hb hB
          obtain ⟨_, q2, q3⟩ := store_ok hm hb hB hn ho hp hlaid
          have hln : l.length = news.length := (RL_get.1 hn).1
          have hr := ha.room cc (d + o) n0 k hroom (fun j hj => by
            rw [ht.size]
            have := (e5 (o + n0 * e + j) (by omega)).1
            rwa [show d + (o + n0 * e + j) = d + o + n0 * e + j by omega] at this) (fun j hj => by
            rw [ht.size]
            have := (e5 (o + n0 * e + j) (by omega)).2
            rwa [show d + (o + n0 * e + j) = d + o + n0 * e + j by omega] at this)
          rw [ht.size, show d + o + n0 * e = d + (o + n0 * e) by omega] at hr
          exact ⟨φ, _, _, hr, q3, Old.refl _ _, q2, RV_at.2 ⟨cc, d, mm, hb, rfl, hroom⟩⟩
        | false =>
          have g2 : (Bool.rec (loadA h b o (n0.mul e) fun l0 => lappK l0 l fun l => rowsB (n0 + n) e [] l h fun i h => c (.at (.sl i 0 (n0 + n) none e)) h) _ ((n0 + n).ble k) : Bool) = true := g2
          rw [hroom] at g2
          have hroom : ¬ n0 + n ≤ k := fun hx => by rw [(ble_iff _ _).2 hx] at hroom; cases hroom
          obtain ⟨bn, r, tt, hB, hp, g4⟩ := loadA_spec g2
          obtain ⟨l0, g5, hrow⟩ := rowAt_spec g4
          rw [lappK_eq] at g5
          obtain ⟨u1, g6, hu1⟩ := rowsBlk_spec g5
          obtain ⟨h', k1, k2, k3⟩ := newB_spec g6
          refine ⟨_, h', k3, by rw [k1]; exact Nat.le_succ _, fun φ w sv xv news hm hs hn ho hnl ha => ?_⟩
          obtain ⟨cc, d, mm, hb, rfl, hk1⟩ := RV_at.1 hs
          obtain ⟨vs, h5, h6, h7, h8⟩ := Mem.cells hm hb hB hp hrow
          have hgc := grownCap_ge w (n0 + n) k el
          obtain ⟨φ', q1, q2, q3, q4⟩ := grown_ok (el := el) hm he rfl (more_rows h6 h7 h5 h8 hn hnl rfl he hu1) hn ho hnl hgc (zs := Builtin.zeroCells zv.cells (grownCap w (n0 + n) k el - (n0 + n))) (by rw [size_zeroCells, ht.cells]) k1 k2
          have hf := run_firstCells_some (P := Tryz.prog) w.drew e n0 ⟨cc, d + o, none⟩ n0 k vs h5 (by simpa using h8)
          have hr := ha.grow (some ⟨cc, d + o, none⟩) n0 k vs (by rw [ht.size]; exact hf) (by omega) e2
          exact ⟨φ', _, _, hr, q1, q2, q3, q4⟩
    · obtain ⟨e2, g1⟩ := boolRec_t g
      have e2 := (ble_iff _ 1000000).1 e2
      have hn1 : n ≠ 0 := fun e => by rw [(beq_iff _ _).2 e] at hn0; cases hn0
      obtain ⟨u1, g6, hu1⟩ := rowsBlk_spec g1
      obtain ⟨h', k1, k2, k3⟩ := newB_spec g6
      refine ⟨_, h', k3, by rw [k1]; exact Nat.le_succ _, fun φ w sv xv news hm hs hn ho hnl ha => ?_⟩
      have hs : sv = .slice none 0 0 := RV_at.1 hs
      subst hs
      have hgc := grownCap_ge w n 0 el
      have hM : More φ w 0 0 0 e n u1 l [] := more_rows (l0 := []) (n := n) (by rw [RL_nil]) (by intro y hy; cases hy) (by simp) (fun j v hj => by simp at hj) hn hnl (by omega) he (by simpa using hu1)
      obtain ⟨φ', q1, q2, q3, q4⟩ := grown_ok (el := el) hm he (by omega) hM hn ho hnl hgc (zs := Builtin.zeroCells zv.cells (grownCap w n 0 el - n)) (by rw [size_zeroCells, ht.cells]) k1 k2
      have hf := run_firstCells_none (P := Tryz.prog) w.drew e 0 0 0
      have hr := ha.grow none 0 0 [] (by rw [ht.size]; exact hf) (by omega) (by omega)
      rw [Nat.zero_add] at hr
      exact ⟨φ', _, _, hr, q1, q2, q3, q4⟩
    · cases g
end Go.Proofs.YtkdjhegkcfmkoaaGreat.AM
namespace Go.Proofs.YtkdjhegkcfmkoaaGreat.AM
open Go.AM
set_option maxRecDepth 100000
variable {f : Operand → Operand} {E : List AV} {F : Fr} {o : Oper} {h : H} {c : K2} {cl : Cl}
theorem arg2_spec {l : List AV} {k : AV → AV → Bool} (hh : arg2 l k = true) : ∃ a b, l = [a, b] ∧ k a b = true := by
  match l, hh with
  | [], hh => cases hh
  | [_], hh => cases hh
  | [a, b], hh => exact ⟨a, b, rfl, hh⟩
  | _ :: _ :: _ :: _, hh => cases hh
theorem arg1_spec {l : List AV} {k : AV → Bool} (hh : arg1 l k = true) : ∃ a, l = [a] ∧ k a = true := by
  match l, hh with
  | [], hh => cases hh
  | [a], hh => exact ⟨a, rfl, hh⟩
  | _ :: _ :: _, hh => cases hh
theorem two_spec {l : List Nat} {b : Bool} (hh : two l b = true) : b = true ∧ ∀ t, l ≠ [t] := by
  match l, hh with
  | [], hh => cases hh
  | [_], hh => cases hh
  | _ :: _ :: _, hh => exact ⟨hh, fun t e => by cases e⟩
theorem arr2 {a : Array Nat} {t u : Nat} (h : a.toList = [t, u]) : a = #[t, u] := by cases a; cases h; rfl
theorem arr2v {a : Array Value} {t u : Value} (h : a.toList = [t, u]) : a = #[t, u] := by cases a; cases h; rfl
theorem arr1v {a : Array Value} {t : Value} (h : a.toList = [t]) : a = #[t] := by cases a; cases h; rfl
theorem list1 {φ : Phi} {a : AV} {vs : List Value} (h : RL φ [a] vs) : ∃ u, vs = [u] ∧ RV φ a u := by
  obtain ⟨u, r, rfl, h1, h2⟩ := RL_cons.1 h
  rw [RL_nil] at h2
  subst h2
  exact ⟨u, rfl, h1⟩
/-- an operation that comes to a run of a builtin -/
theorem Out.loud {x : Call} {b : Builtin} (ho : o.op = .call x) (hb : x.callee = .builtin b) {r : AV} {h' : H} (hc : c r h' = true) (hn : h.nx.num ≤ h'.nx.num) {vs : List AV} (hv : (x.args.map f).toList.map (rdA E F) = vs.map some) (s : Array Value → Sem Value)
    (he : ∀ ρ, execOp ρ o = (do pure (Next.value (← s (x.args.map ρ))))) (hr : ∀ (φ : Phi) w (us : Array Value), Mem φ h w → RL φ vs us.toList → Out h h' φ w (s us) r) : Loud f E F o h c := by
  refine ⟨r, h', hc, LoudV.ok ⟨hn, fun φ ρ w hm hx => ?_⟩⟩
  obtain ⟨φ', w', r', h1, h2, h3, h4, h5⟩ := hr φ w (x.args.map ρ) hm (args_ok ho hv hx)
  exact ⟨_, φ', w', r', by rw [he]; exact run_value' _ w _ _ h1, Or.inl rfl, h2, h3, h4, h5⟩
theorem l_append {x : Call} (ho : o.op = .call x) (hb : x.callee = .builtin .append) (hh : (rdL E F (x.args.map f).toList fun l => u_append x.argTypes.toList l h c) = true) : Loud f E F o h c := by
  obtain ⟨vs, hv, g⟩ := rdL_spec hh
  obtain ⟨g1, hne⟩ := two_spec g
  cases hk : apK x.argTypes.toList with
  | no => rw [hk] at g1; cases g1
  | mk zs e z =>
    rw [hk] at g1
    rcases apK_some hk with ⟨t, ht⟩ | ⟨t, u, htu⟩
    · exact absurd ht (hne t)
    rw [htu] at hk
    obtain ⟨⟨el, i, zv, ht⟩, hu⟩ := apK_two hk
    obtain ⟨s, xa, rfl, g2⟩ := arg2_spec g1
    have hts := arr2 htu
    have hexec : ∀ ρ, execOp ρ o = (do pure (Next.value (← Builtin.append_ #[t, u] o.type (x.args.map ρ)))) := fun ρ => by
      rw [exec_builtin ho hb, hts]; rfl
    rcases hu with ⟨rfl, k, hu⟩ | ⟨rfl, hu⟩
    · obtain ⟨kx, n, rfl, g3⟩ := onNat_spec g2
      obtain ⟨e1, g4⟩ := boolRec_t g3
      have e1 := (ble_iff _ 100000).1 e1
      rw [forceL_eq] at g4
      obtain ⟨r, h', q1, q2, q3⟩ := appendTo_ok (u := u) (ty := o.type) ht g4
      refine Out.loud ho hb q1 q2 hv _ hexec (fun φ w us hm hr => ?_)
      obtain ⟨sv, xv, hus, h1, h2⟩ := list2 hr
      rw [arr2v hus]
      have h2 := RV_int.1 h2
      subst h2
      have hzm : Builtin.zeroCells zv.cells n = madeCells zv.cells (n * z.length) := by rw [ht.len, ← ht.cells]; rfl
      have hz := zerosL_made (ht.rl φ) (by have := ht.pos; rw [ht.len]; omega) n
      refine q3 φ w sv _ _ hm h1 hz (one_made ht.one (by rw [ht.cells]; exact ht.pos) _) (by rw [Array.length_toList, size_madeCells, ht.len]) ?_
      rw [← hzm]
      exact app_zeros ht hu e1
    · obtain ⟨n, l, g3, hsrc⟩ := src_ok (show srcOf xa e h (fun n l => appendTo s e n l h c) = true from g2)
      obtain ⟨r, h', q1, q2, q3⟩ := appendTo_ok (u := u) (ty := o.type) ht g3
      refine Out.loud ho hb q1 q2 hv _ hexec (fun φ w us hm hr => ?_)
      obtain ⟨sv, xv, hus, h1, h2⟩ := list2 hr
      rw [arr2v hus]
      obtain ⟨news, s1, s2, s3, s4⟩ := hsrc φ xv w u hm h2 hu
      exact q3 φ w sv xv news hm h1 s2 s3 s4 (app_src ht (by rw [ht.size]; exact s1))
end Go.Proofs.YtkdjhegkcfmkoaaGreat.AM
namespace Go.Proofs.YtkdjhegkcfmkoaaGreat.AM
open Go.AM
set_option maxRecDepth 100000
variable {f : Operand → Operand} {E : List AV} {F : Fr} {o : Oper} {h : H} {c : K2} {cl : Cl}
theorem Kept.refl' (φ : Phi) (h : H) (w : World) : Kept φ w φ w ∧ Old h.nx.num φ φ := ⟨Kept.refl _ _, Old.refl _ _⟩
theorem lenOf_spec {x : AV} {k : Nat → Bool} (hh : lenOf x k = true) : ∃ n, k n = true ∧ ∀ (φ : Phi) v, RV φ x v → (∀ w, (Builtin.lenOf v).run Tryz.prog w = .ok n w) ∧ ((∃ a k, v = .slice a n k) ∨ ∃ s, v = .string s ∧ s.size = n) := by
  unfold lenOf at hh
  obtain ⟨a, rfl, g⟩ := onAt_spec hh
  cases a with
  | nils => exact ⟨0, g, fun φ v hv => by have hv := RV_at.1 hv; subst hv; exact ⟨fun _ => rfl, Or.inl ⟨_, _, rfl⟩⟩⟩
  | sz => exact ⟨0, g, fun φ v hv => by obtain ⟨a, k, rfl⟩ := RV_at.1 hv; exact ⟨fun _ => rfl, Or.inl ⟨_, _, rfl⟩⟩⟩
  | str n l => exact ⟨n, g, fun φ v hv => by obtain ⟨s, rfl, _, rfl⟩ := RV_at.1 hv; exact ⟨fun _ => rfl, Or.inr ⟨s, rfl, rfl⟩⟩⟩
  | sl b o n k e => exact ⟨n, g, fun φ v hv => by obtain ⟨_, _, _, kk, _, rfl, _⟩ := RV_sl hv; exact ⟨fun _ => rfl, Or.inl ⟨_, _, rfl⟩⟩⟩
  | _ => cases g
theorem first_zero {e n : Nat} {v : Value} (hv : (∃ a k, v = .slice a n k) ∨ ∃ s, v = .string s ∧ s.size = n) (w : World) : (Builtin.firstCells e 0 v).run Tryz.prog w = .ok #[] w := by
  rcases hv with ⟨a, k, rfl⟩ | ⟨s, rfl, _⟩
  · cases a with
    | none => rfl
    | some a => exact run_firstCells_some w e 0 a n k [] (by simp) (fun j u hj => by simp at hj)
  · simp [Builtin.firstCells]
/-- the first of what there is -/
theorem first_ok {x : AV} {e m : Nat} {k : Nat → List AV → Bool} (hh : srcOf x e h k = true) : ∃ n l, k n l = true ∧ ∀ (φ : Phi) v w, Mem φ h w → RV φ x v → ((∃ a n0 k, v = .slice a n0 k ∧ m ≤ n0) ∨ ∃ s, v = .string s ∧ m ≤ s.size) →
    ∃ news, (Builtin.firstCells e m v).run Tryz.prog w = .ok news.toArray w ∧ RL φ (l.take (m * e)) news ∧ One news ∧ news.length = m * e := by
  unfold srcOf at hh
  obtain ⟨a, rfl, g⟩ := onAt_spec hh
  have empty : ∀ (φ : Phi) (v : Value) (w : World), (∃ a k, v = .slice a 0 k) → ((∃ a n0 k, v = .slice a n0 k ∧ m ≤ n0) ∨ ∃ s, v = .string s ∧ m ≤ s.size) →
      ∃ news, (Builtin.firstCells e m v).run Tryz.prog w = .ok news.toArray w ∧ RL φ (([] : List AV).take (m * e)) news ∧ One news ∧ news.length = m * e := by
    rintro φ v w ⟨a, k, rfl⟩ hm
    have h0 : m = 0 := by
      rcases hm with ⟨a', n0, k', h1, h2⟩ | ⟨s, h1, _⟩
      · injection h1 with _ h1 _; omega
      · cases h1
    subst h0
    exact ⟨[], first_zero (Or.inl ⟨a, k, rfl⟩) w, by rw [List.take_nil, RL_nil], (by intro y hy; cases hy), by simp⟩
  cases a with
  | nils => exact ⟨0, [], g, fun φ v w _ hv hm => empty φ v w ⟨none, 0, RV_at.1 hv⟩ hm⟩
  | sz => exact ⟨0, [], g, fun φ v w _ hv hm => empty φ v w (RV_at.1 hv) hm⟩
  | str n l =>
    obtain ⟨e1, g1⟩ := boolRec_t g
    have e1 := (beq_iff _ _).1 e1
    subst e1
    rw [cellsS_eq] at g1
    refine ⟨n, _, g1, fun φ v w _ hv hm => ?_⟩
    obtain ⟨s, rfl, rfl, rfl⟩ := RV_at.1 hv
    have hm : m ≤ s.size := by
      rcases hm with ⟨a, n0, k, h1, h2⟩ | ⟨s', h1, h2⟩
      · cases h1
      · injection h1 with h1; subst h1; exact h2
    refine ⟨(byteCells s).take m, ?_, by rw [Nat.mul_one]; exact RL_take (RL_bytes φ s) m, ?_, by rw [List.length_take, byteCells_length]; omega⟩
    · simp only [Builtin.firstCells]
      have : (s.extract 0 m).data.map (fun b => Value.int .u8 b.toNat) = ((byteCells s).take m).toArray := by
        apply Array.ext'
        unfold byteCells
        simp [List.map_take, List.extract]
      rw [this]; rfl
    · intro y hy
      obtain ⟨_, _, rfl⟩ := List.mem_map.1 (List.mem_of_mem_take hy)
      rfl
  | sl b o n kk e' =>
    obtain ⟨e1, g1⟩ := boolRec_t g
    have e1 := (beq_iff _ _).1 e1
    subst e1
    obtain ⟨bn, r, t, hB, hp, g2⟩ := loadA_spec g1
    obtain ⟨l, g3, hrow⟩ := rowAt_spec g2
    refine ⟨n, l, g3, fun φ v w hm hv hmn => ?_⟩
    obtain ⟨cc, d, mm, kc, h2, rfl, h4⟩ := RV_sl hv
    obtain ⟨vs, h5, h6, h7, h8⟩ := Mem.cells hm h2 hB hp hrow
    have h5 : vs.length = n * e := h5
    have hmn : m ≤ n := by
      rcases hmn with ⟨a, n0, k, h1, h2⟩ | ⟨s', h1, h2⟩
      · injection h1 with _ h1 _; subst h1; exact h2
      · cases h1
    have hle : m * e ≤ n * e := Nat.mul_le_mul_right e hmn
    have hlen : (vs.take (m * e)).length = m * e := by rw [List.length_take]; omega
    refine ⟨vs.take (m * e), ?_, RL_take h6 _, fun y hy => h7 y (List.mem_of_mem_take hy), hlen⟩
    refine run_firstCells_some w e m _ n kc _ hlen (fun j u hj => h8 j u ?_)
    rw [List.getElem?_take] at hj
    split at hj
    · exact hj
    · cases hj
  | _ => cases g
theorem l_copy {x : Call} (ho : o.op = .call x) (hb : x.callee = .builtin .copy) (hh : (rdL E F (x.args.map f).toList fun l => u_copy x.argTypes.toList l h c) = true) : Loud f E F o h c := by
  obtain ⟨vs, hv, g⟩ := rdL_spec hh
  obtain ⟨g1, hne⟩ := two_spec g
  cases hk : apK x.argTypes.toList with
  | no => rw [hk] at g1; cases g1
  | mk zs e z =>
    rw [hk] at g1
    rcases apK_some hk with ⟨t, ht⟩ | ⟨t, u, htu⟩
    · exact absurd ht (hne t)
    rw [htu] at hk
    obtain ⟨⟨el, i, zv, ht⟩, hu⟩ := apK_two hk
    obtain ⟨d, xa, rfl, g2⟩ := arg2_spec g1
    have hts := arr2 htu
    have hexec : ∀ ρ, execOp ρ o = (do pure (Next.value (← Builtin.copy_ #[t, u] o.type (x.args.map ρ)))) := fun ρ => by
      rw [exec_builtin ho hb, hts]; rfl
    obtain ⟨n, g3, hlen⟩ := lenOf_spec g2
    have none : c (.int .i64 (Int.ofNat 0)) h = true → (∀ (φ : Phi) dv, RV φ d dv → ∃ a m k, dv = .slice a m k ∧ Nat.min n m = 0) → Loud f E F o h c := fun hc hd => by
      refine Out.loud ho hb hc (Nat.le_refl _) hv _ hexec (fun φ w us hm hr => ?_)
      obtain ⟨dv, xv, hus, h1, h2⟩ := list2 hr
      obtain ⟨a, m, k, rfl, hmin⟩ := hd φ dv h1
      obtain ⟨h3, h4⟩ := hlen φ xv h2
      have h5 := first_zero (e := i.size) h4 w
      refine ⟨φ, w, goInt 0, ?_, Kept.refl _ _, Old.refl _ _, hm, by rw [RV_int]; rfl⟩
      rw [arr2v hus]
      have hs0 : ∀ a : Addr, (storeCells a [] : Sem Unit) = pure () := fun a => rfl
      cases a <;> simp [Builtin.copy_, run_underlying ht.und, run_sizeOf' ht.info, h3, hmin, h5, hs0]
    rcases onSl_spec g3 with ⟨b, p, m, k, e', rfl, g4⟩ | ⟨rfl, g4⟩ | ⟨rfl, g4⟩
    · rw [forceN_eq] at g4
      cases hk0 : (Nat.min n m).beq 0 with
      | true =>
        rw [hk0] at g4
        exact none g4 (fun φ dv hd => by obtain ⟨_, _, _, kk, _, rfl, _⟩ := RV_sl hd; exact ⟨_, _, _, rfl, (beq_iff _ _).1 hk0⟩)
      | false =>
        rw [hk0] at g4
        obtain ⟨n', l, g5, hsrc⟩ := first_ok (m := Nat.min n m) (show srcOf xa e h (fun _ l => ltakeK l ((Nat.min n m).mul e) fun l => Bool.rec false (storeA h b p l fun h => c (.int .i64 (Int.ofNat (Nat.min n m))) h) (e.beq e')) = true from g4)
        rw [ltakeK_eq] at g5
        obtain ⟨e1, g6⟩ := boolRec_t g5
        have e1 := (beq_iff _ _).1 e1
        subst e1
        obtain ⟨bn, r, tt, uu, hB, hp, g7, hlaid⟩ := storeA_spec g6
        refine Out.loud ho hb g7 (Nat.le_refl _) hv _ hexec (fun φ w us hm hr => ?_)
        obtain ⟨dv, xv, hus, h1, h2⟩ := list2 hr
        obtain ⟨cc, dd, mm, kk, q1, rfl, q2⟩ := RV_sl h1
        obtain ⟨h3, h4⟩ := hlen φ xv h2
        have hmn : (∃ a n0 k, xv = .slice a n0 k ∧ Nat.min n m ≤ n0) ∨ ∃ s, xv = .string s ∧ Nat.min n m ≤ s.size := by
          rcases h4 with ⟨a, k, h4⟩ | ⟨s, h4, h5⟩
          · exact Or.inl ⟨a, n, k, h4, Nat.min_le_left _ _⟩
          · exact Or.inr ⟨s, h4, by rw [h5]; exact Nat.min_le_left _ _⟩
        obtain ⟨news, n1, n2, n3, n4⟩ := hsrc φ xv w hm h2 hmn
        obtain ⟨p1, p2, p3⟩ := store_ok hm q1 hB n2 n3 hp hlaid
        refine ⟨φ, _, goInt (Nat.min n m), ?_, p3, Old.refl _ _, p2, by rw [RV_int]; rfl⟩
        rw [arr2v hus]
        have hsz := ht.size
        simp [Builtin.copy_, run_underlying ht.und, run_sizeOf' ht.info, h3, hsz, n1, p1]
    · exact none g4 (fun φ dv hd => ⟨_, _, _, RV_at.1 hd, Nat.min_zero n⟩)
    · exact none g4 (fun φ dv hd => by obtain ⟨a, k, h1⟩ := RV_at.1 hd; exact ⟨_, _, _, h1, Nat.min_zero n⟩)
theorem l_clear {x : Call} (ho : o.op = .call x) (hb : x.callee = .builtin .clear) (hh : (rdL E F (x.args.map f).toList fun l => u_clear x.argTypes.toList l h c) = true) : Loud f E F o h c := by
  obtain ⟨vs, hv, g1⟩ := rdL_spec hh
  have g1 : u_clear x.argTypes.toList vs h c = true := g1
  unfold u_clear at g1
  cases hk : apK x.argTypes.toList with
  | no => rw [hk] at g1; cases g1
  | mk zs e z =>
    rw [hk] at g1
    have hel : ∃ t el i zv, x.argTypes[0]? = some t ∧ ElemT t el e z i zv := by
      rcases apK_some hk with ⟨t, ht⟩ | ⟨t, u, ht⟩
      · rw [ht] at hk
        obtain ⟨el, i, zv, h1⟩ := apK_one hk
        exact ⟨t, el, i, zv, arr0 ht, h1⟩
      · rw [ht] at hk
        obtain ⟨⟨el, i, zv, h1⟩, _⟩ := apK_two hk
        exact ⟨t, el, i, zv, arr0 ht, h1⟩
    obtain ⟨t, el, i, zv, ht0, ht⟩ := hel
    obtain ⟨d, rfl, g2⟩ := arg1_spec (show arg1 vs _ = true from g1)
    have hexec : ∀ ρ, execOp ρ o = (do pure (Next.value (← Builtin.clear_ x.argTypes o.type (x.args.map ρ)))) := fun ρ => by
      rw [exec_builtin ho hb]; rfl
    have none : c (.tup []) h = true → (∀ (φ : Phi) dv, RV φ d dv → ∃ a k, dv = .slice a 0 k) → Loud f E F o h c := fun hc hd => by
      refine Out.loud ho hb hc (Nat.le_refl _) hv _ hexec (fun φ w us hm hr => ?_)
      obtain ⟨dv, hus, h1⟩ := list1 hr
      obtain ⟨a, k, rfl⟩ := hd φ dv h1
      refine ⟨φ, w, .tuple #[], ?_, Kept.refl _ _, Old.refl _ _, hm, RV_tup.2 ⟨_, rfl, by rw [RL_nil]⟩⟩
      rw [arr1v hus]
      cases a <;> simp [Builtin.clear_, ht0, run_underlying ht.und]
    rcases onSl_spec g2 with ⟨b, p, n, k, e', rfl, g3⟩ | ⟨rfl, g3⟩ | ⟨rfl, g3⟩
    · cases hn0 : n.beq 0 with
      | true =>
        rw [hn0] at g3
        exact none g3 (fun φ dv hd => by
          obtain ⟨_, _, _, kk, _, rfl, _⟩ := RV_sl hd
          rw [(beq_iff _ _).1 hn0]; exact ⟨_, _, rfl⟩)
      | false =>
        have g3 : (Bool.rec (Bool.rec false (Bool.rec false (forceL (zerosL z n) fun l => storeA h b p l fun h => c (.tup []) h) (e.beq e')) (n.ble 100000)) _ (n.beq 0) : Bool) = true := g3
        rw [hn0] at g3
        obtain ⟨_, g4⟩ := boolRec_t g3
        obtain ⟨e1, g5⟩ := boolRec_t g4
        have e1 := (beq_iff _ _).1 e1
        subst e1
        rw [forceL_eq] at g5
        have hn1 : n ≠ 0 := fun e => by rw [(beq_iff _ _).2 e] at hn0; cases hn0
        obtain ⟨bn, r, tt, uu, hB, hp, g7, hlaid⟩ := storeA_spec g5
        refine Out.loud ho hb g7 (Nat.le_refl _) hv _ hexec (fun φ w us hm hr => ?_)
        obtain ⟨dv, hus, h1⟩ := list1 hr
        obtain ⟨cc, dd, mm, kk, q1, rfl, q2⟩ := RV_sl h1
        have hz := zerosL_made (ht.rl φ) (by have := ht.pos; rw [ht.len]; omega) n
        have hzm : Builtin.zeroCells zv.cells n = madeCells zv.cells (n * z.length) := by rw [ht.len, ← ht.cells]; rfl
        obtain ⟨p1, p2, p3⟩ := store_ok hm q1 hB hz (one_made ht.one (by rw [ht.cells]; exact ht.pos) _) hp hlaid
        refine ⟨φ, _, .tuple #[], ?_, p3, Old.refl _ _, p2, RV_tup.2 ⟨_, rfl, by rw [RL_nil]⟩⟩
        rw [arr1v hus]
        have hzv : ∀ w, (zeroValue el).run Tryz.prog w = .ok zv w := fun w => run_zeroValue' ht.info ht.zero w
        cases n with
        | zero => exact absurd rfl hn1
        | succ n =>
          rw [← hzm] at p1 ⊢
          simp [Builtin.clear_, ht0, run_underlying ht.und, hzv, p1]
    · exact none g3 (fun φ dv hd => ⟨_, _, RV_at.1 hd⟩)
    · exact none g3 (fun φ dv hd => RV_at.1 hd)
end Go.Proofs.YtkdjhegkcfmkoaaGreat.AM
namespace Go.Proofs.YtkdjhegkcfmkoaaGreat.AM
open Go.AM
set_option maxRecDepth 100000
variable {f : Operand → Operand} {E : List AV} {F : Fr} {o : Oper} {h : H} {c : K2} {cl : Cl}
theorem blk_newF {φ : Phi} {w : World} {cs : Array Value} {ty : TypeId} {lo hi : Nat} {n r : Nat} {t : Rws} (hlo : cs.size ≤ lo) (hr : r = 1) (h1 : n ≤ cs.size) (h2 : 1 ≤ r) (h3 : n ≤ r * t.cap) (h4 : ∀ i, i < t.cap → (t.at i).length ≤ r)
    (h5 : ∀ o, o < n → ∃ v x, cellAt r t o = some v ∧ cs[o]? = some x ∧ RV φ v x ∧ x.oneCell' = true) : BlkR φ (.mk n r t) (w.alloc (.cells cs ty (lo, hi))) w.heap.size 0 cs.size := by
  have hc : ∀ i, (w.alloc (.cells cs ty (lo, hi))).cell? ⟨w.heap.size, i, none⟩ = cs[i]? := fun i => by simp only [World.cell?, heap_alloc_new]; simp
  refine ⟨h1, h2, h3, h4, fun o ho => ?_, fun j hj => ?_, Or.inl hr⟩
  · obtain ⟨v, x, a1, a2, a3, a4⟩ := h5 o ho
    exact ⟨v, x, a1, by rw [Nat.zero_add, hc]; exact a2, a3, a4⟩
  · rw [Nat.zero_add, hc]
    refine ⟨by rw [Array.getElem?_eq_getElem hj]; rfl, ?_⟩
    simp only [World.frozen?, heap_alloc_new]
    have : decide (lo ≤ j) = false := by rw [decide_eq_false_iff_not]; omega
    simp [this]
theorem l_s2b {s d : TypeId} {x : Operand} (ho : o.op = .convert s d x) (hk : cvK s d = .s2b) (hh : b_convert s d (f x) cl E F h c = true) : Loud f E F o h c := by
  obtain ⟨a, ha, hc⟩ := rd_spec hh
  rw [hk] at hc
  clear hh
  obtain ⟨hs, el, i, hd, he, hi, hsz⟩ := cvK_s2b hk
  obtain ⟨n, l, rfl, g⟩ := onStr_spec hc
  have g : cellsS l (fun l => rowsB n 1 [] l h fun i h => c (.at (.sl i 0 n none 1)) h) = true := g
  rw [cellsS_eq] at g
  obtain ⟨u1, g1, hu1⟩ := rowsBlk_spec g
  obtain ⟨h', k1, k2, k3⟩ := newB_spec g1
  refine ⟨_, h', k3, LoudV.ok ⟨by rw [k1]; exact Nat.le_succ _, fun φ ρ w hm hx => ?_⟩⟩
  obtain ⟨t, h1, h2, h3⟩ := RV_at.1 (hx x (by simp [Op.operands, ho]) _ ha)
  have hgc := grownCap_ge w t.size 0 el
  have hbs : (bytesRow t (grownCap w t.size 0 el)).size = grownCap w t.size 0 el := by
    unfold bytesRow
    rw [Array.size_append, Array.size_map, Array.size_replicate]
    show t.size + _ = _
    omega
  have hll : (l.map fun a => AV.int .u8 (Int.ofNat a)).length = n * 1 := by rw [List.length_map, ← h2, strL_len, h3, Nat.mul_one]
  obtain ⟨v1, v2, v3⟩ := hu1 (Nat.le_refl _) hll
  obtain ⟨m1, m2⟩ := hm.drew.new k1 k2 (.cells (bytesRow t (grownCap w t.size 0 el)) el ((bytesRow t (grownCap w t.size 0 el)).size, (bytesRow t (grownCap w t.size 0 el)).size + 1)) (grownCap w t.size 0 el) (by
    have := blk_newF (φ := φ.new h.nx (w.heap.size, 0, grownCap w t.size 0 el)) (w := w.drew) (cs := bytesRow t (grownCap w t.size 0 el)) (ty := el) (lo := (bytesRow t (grownCap w t.size 0 el)).size) (hi := (bytesRow t (grownCap w t.size 0 el)).size + 1)
      (n := n * 1) (r := 1) (t := u1) (Nat.le_refl _) rfl (by rw [hbs]; omega) (Nat.le_refl _) (by omega) v2 (fun q hq => by
        have hr := RL_bytes (φ.new h.nx (w.heap.size, 0, grownCap w t.size 0 el)) t
        rw [h2] at hr
        obtain ⟨y, b1, b2⟩ := RL_at hr (List.getElem?_eq_getElem (show q < (l.map fun a => AV.int .u8 (Int.ofNat a)).length by omega))
        refine ⟨_, y, by rw [v3 q hq]; exact List.getElem?_eq_getElem _, ?_, b2, ?_⟩
        · unfold bytesRow
          have hq2 : q < (t.data.map fun b => Value.int .u8 b.toNat).size := by rw [Array.size_map]; show q < t.size; omega
          rw [Array.getElem?_append_left hq2, ← Array.getElem?_toList, Array.toList_map]
          exact b1
        · obtain ⟨b, _, rfl⟩ := List.mem_map.1 (List.mem_of_getElem? b1)
          rfl)
    generalize hW : w.drew.alloc (.cells (bytesRow t (grownCap w t.size 0 el)) el ((bytesRow t (grownCap w t.size 0 el)).size, (bytesRow t (grownCap w t.size 0 el)).size + 1)) = W at this ⊢
    rw [hbs] at this
    exact this)
  refine ⟨_, _, _, _, ?_, Or.inl rfl, (Kept.drew φ w).trans m2, Old.new _ _ _, m1, RV_flex φ h.nx w.heap.size 0 (grownCap w t.size 0 el) n (grownCap w t.size 0 el) 1 (by omega) (Nat.mul_one _)⟩
  simp only [execOp, ho]
  refine run_value' _ w _ _ ?_
  rw [h1]
  have hr := run_bytes_of_string (P := Tryz.prog) w s d el t hs hd he
  rw [hr, h3]
end Go.Proofs.YtkdjhegkcfmkoaaGreat.AM
