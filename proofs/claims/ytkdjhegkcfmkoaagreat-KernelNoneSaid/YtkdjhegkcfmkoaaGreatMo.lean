/- The abstract machine over this program: slices.Insert, what it leaves in memory. -/
import Derived.Test.YtkdjhegkcfmkoaaGreatMn
namespace Go.Proofs.YtkdjhegkcfmkoaaGreat.AM
open Go.AM Go.Shelf Go.RowKit Go.Lib
set_option maxRecDepth 100000
/-- a block more, whatever it holds -/
theorem mem_more {φ : Phi} {h h' : H} {w w' : World} (hm : Mem φ h w) (hn : h'.nx.num = h.nx.num + 1) {B : Blk} (ha : ∀ c, h'.at c = if h.nx = c then B else h.at c) (m : Nat) (hs : w'.heap.size = w.heap.size + 1)
    (ho : ∀ x, x < w.heap.size → w'.heap[x]? = w.heap[x]?) (ht : w'.tape = w.tape ∧ w'.os = w.os ∧ w'.output = w.output) (hB : BlkR (φ.new h.nx (w.heap.size, 0, m)) B w' w.heap.size 0 m) :
    Mem (φ.new h.nx (w.heap.size, 0, m)) h' w' ∧ Kept φ w (φ.new h.nx (w.heap.size, 0, m)) w' := by
  have hf : φ h.nx = none := hm.fresh _ (Nat.le_refl _)
  have hl := Phi.le_new (w.heap.size, 0, m) hf
  have ex : ∀ {x c' d' m'}, φ.new h.nx (w.heap.size, 0, m) x = some (c', d', m') → (x = h.nx ∧ c' = w.heap.size ∧ d' = 0 ∧ m' = m) ∨ (x ≠ h.nx ∧ φ x = some (c', d', m')) := by
    intro x c' d' m' hx
    by_cases e : x = h.nx
    · subst e
      rw [Phi.new_same] at hx
      injection hx with hx
      injection hx with h1 h2
      injection h2 with h2 h3
      exact Or.inl ⟨rfl, h1.symm, h2.symm, h3.symm⟩
    · rw [Phi.new_other φ _ e] at hx; exact Or.inr ⟨e, hx⟩
  refine ⟨⟨?_, ?_, ?_, ?_, fun b hb => by rw [ha, if_neg (by intro e; subst e; omega)]; exact hm.clean b (by omega)⟩, ⟨hl, by rw [hs]; omega, fun c hc _ => ho c hc, ?_, ht.1, ht.2.1, ht.2.2⟩⟩
  · intro x c d k hx
    rw [ha]
    rcases ex hx with ⟨rfl, rfl, rfl, rfl⟩ | ⟨e, hx2⟩
    · rw [if_pos rfl]; exact hB
    · rw [if_neg (Ne.symm e)]
      exact ((hm.blk x c d k hx2).mono hl).same (ho c (hm.low x c d k hx2))
  · intro x y c d k d' k' h1 h2 n1 n2
    rw [ha] at n1 n2
    rcases ex h1 with ⟨rfl, rfl, rfl, rfl⟩ | ⟨e1, g1⟩ <;> rcases ex h2 with ⟨rfl, e2, rfl, rfl⟩ | ⟨e2, g2⟩
    · rfl
    · have := hm.low _ _ _ _ g2; omega
    · have := hm.low _ _ _ _ g1; omega
    · rw [if_neg (Ne.symm e1)] at n1; rw [if_neg (Ne.symm e2)] at n2
      exact hm.inj x y c d k d' k' g1 g2 n1 n2
  · intro x hx
    rw [hn] at hx
    rw [Phi.new_other φ _ (by intro e; subst e; omega)]
    exact hm.fresh x (by omega)
  · intro x c d k hx
    rw [hs]
    rcases ex hx with ⟨rfl, rfl, rfl, rfl⟩ | ⟨_, g⟩
    · omega
    · have := hm.low x c d k g; omega
  · intro x c d k hx hc
    rcases ex hx with ⟨rfl, rfl, rfl, rfl⟩ | ⟨_, g⟩
    · omega
    · exact ⟨x, d, k, g⟩
/-- rows that hold what they should -/
structure RowsOf (t : Rws) (m e : Nat) (l : List AV) : Prop where
  pos : 1 ≤ e
  len : l.length = m * e
  cap : m ≤ t.cap
  rows : ∀ i, i < t.cap → (t.at i).length ≤ e
  cells : ∀ o, o < m * e → cellAt e t o = l[o]?
theorem rows_of {t : Rws} {m e : Nat} {l : List AV} (he : 1 ≤ e) (hl : l.length = m * e) (h : 1 ≤ e → l.length = m * e → m ≤ t.cap ∧ (∀ i, i < t.cap → (t.at i).length ≤ e) ∧ ∀ o, o < m * e → cellAt e t o = l[o]?) : RowsOf t m e l := by
  obtain ⟨a, b, c⟩ := h he hl
  exact ⟨he, hl, a, b, c⟩
theorem blk_of {φ : Phi} {w : World} {c p m e k : Nat} {t : Rws} {l : List AV} {fin : List Value} (hR : RowsOf t m e l) (hmk : m ≤ k) (hl : RL φ l fin) (ho : One fin) (hc : ∀ (q : Nat) v, fin[q]? = some v → w.cell? ⟨c, p + q, none⟩ = some v)
    (hth : ∀ j, j < k * e → (w.cell? ⟨c, p + j, none⟩).isSome = true ∧ w.frozen? ⟨c, p + j, none⟩ = false) (hmk2 : e = 1 ∨ ∀ k, w.frozen? ⟨c, k, none⟩ = false) : BlkR φ (.mk (m * e) e t) w c p (k * e) := by
  refine ⟨Nat.mul_le_mul_right e hmk, hR.pos, by rw [Nat.mul_comm]; exact Nat.mul_le_mul_left e hR.cap, hR.rows, fun q hq => ?_, hth, hmk2⟩
  obtain ⟨x, a1, a2⟩ := RL_at hl (List.getElem?_eq_getElem (show q < l.length by rw [hR.len]; exact hq))
  refine ⟨_, x, by rw [show (t.at (q / e))[q % e]? = cellAt e t q from rfl, hR.cells q hq]; exact List.getElem?_eq_getElem _, hc q x a1, a2, ho x (List.mem_of_getElem? a1)⟩
/-- a slice that goes on under another name -/
theorem goes_on {φ : Phi} {h h' : H} {w w' : World} {b : Nm} {c d mm bn r m e o kk : Nat} {tt t : Rws} {l : List AV} {fin : List Value} (hm : Mem φ h w) (hb : φ b = some (c, d, mm)) (hB : h.at b = .mk bn r tt) (hr : r ≠ 1)
    (hR : RowsOf t m e l) (hl : RL φ l fin) (ho : One fin) (hroom : m ≤ kk) (hk : o + kk * e = mm) (k1 : h'.nx.num = h.nx.num + 1) (k2 : ∀ x, h'.at x = if h.nx = x then .mk (m * e) e t else if b = x then .no else h.at x)
    (hs : w'.heap.size = w.heap.size) (hot : ∀ x, x < w.heap.size → x ≠ c → w'.heap[x]? = w.heap[x]?) (ht : w'.tape = w.tape ∧ w'.os = w.os ∧ w'.output = w.output) (hfz : ∀ x, w'.frozen? x = w.frozen? x)
    (hth : ∀ j, (w.cell? ⟨c, j, none⟩).isSome = true → (w'.cell? ⟨c, j, none⟩).isSome = true) (hc : ∀ (q : Nat) v, fin[q]? = some v → w'.cell? ⟨c, d + o + q, none⟩ = some v) :
    ∃ φ', Kept φ w φ' w' ∧ Old h.nx.num φ φ' ∧ Mem φ' h' w' ∧ RV φ' (.at (.sl h.nx 0 m none e)) (.slice (some ⟨c, d + o, none⟩) m kk) := by
  have hf : φ h.nx = none := hm.fresh _ (Nat.le_refl _)
  have hle := Phi.le_new (c, d + o, kk * e) hf
  obtain ⟨_, _, _, _, e5⟩ := Mem.cells_there hm hb hB
  obtain ⟨m1, m2⟩ := hm.over (w' := w') hb (by rw [hB]; intro e; cases e) k1 k2 hs hot ht (d + o) (kk * e) (by
    refine blk_of hR hroom (RL.mono hle _ _ hl) ho hc (fun j hj => ?_) (Or.inr fun k => ?_)
    · have := e5 (o + j) (by omega)
      rw [← Nat.add_assoc] at this
      exact ⟨hth _ this.1, by rw [hfz]; exact this.2⟩
    · rw [hfz]; exact (Mem.mark hm hb hB).resolve_left hr k)
  exact ⟨_, m2, Old.new _ _ _, m1, RV_flex _ _ _ _ _ _ _ _ hroom rfl⟩
/-- a slice in a row of its own -/
theorem begins {φ : Phi} {h h' : H} {w w' : World} {m e kk : Nat} {t : Rws} {l : List AV} {fin : List Value} (hm : Mem φ h w) (hR : RowsOf t m e l) (hl : RL φ l fin) (ho : One fin) (hroom : m ≤ kk) (k1 : h'.nx.num = h.nx.num + 1) (k2 : ∀ x, h'.at x = if h.nx = x then .mk (m * e) e t else h.at x)
    (hs : w'.heap.size = w.heap.size + 1) (hot : ∀ x, x < w.heap.size → w'.heap[x]? = w.heap[x]?) (ht : w'.tape = w.tape ∧ w'.os = w.os ∧ w'.output = w.output) (hfz : ∀ j, w'.frozen? ⟨w.heap.size, j, none⟩ = false)
    (hth : ∀ j, j < kk * e → (w'.cell? ⟨w.heap.size, j, none⟩).isSome = true) (hc : ∀ (q : Nat) v, fin[q]? = some v → w'.cell? ⟨w.heap.size, q, none⟩ = some v) :
    ∃ φ', Kept φ w φ' w' ∧ Old h.nx.num φ φ' ∧ Mem φ' h' w' ∧ RV φ' (.at (.sl h.nx 0 m none e)) (.slice (some ⟨w.heap.size, 0, none⟩) m kk) := by
  have hf : φ h.nx = none := hm.fresh _ (Nat.le_refl _)
  have hle := Phi.le_new (w.heap.size, 0, kk * e) hf
  obtain ⟨m1, m2⟩ := mem_more (w' := w') hm k1 k2 (kk * e) hs hot ht (by
    refine blk_of hR hroom (RL.mono hle _ _ hl) ho (fun q v hq => by rw [Nat.zero_add]; exact hc q v hq) (fun j hj => ?_) (Or.inr fun k => hfz k)
    rw [Nat.zero_add]; exact ⟨hth j hj, hfz j⟩)
  exact ⟨_, m2, Old.new _ _ _, m1, RV_flex _ _ _ _ _ _ _ _ hroom rfl⟩
/-! ### cells behind writing -/
theorem cell_in {w : World} {b o p q : Nat} {vs : List Value} {v : Value} (h : ∀ j, j < vs.length → (w.cell? ⟨b, o + j, none⟩).isSome = true) (hp : p = o + q) (hv : vs[q]? = some v) : (w.setCells b o vs).cell? ⟨b, p, none⟩ = some v := by
  subst hp
  have hq := (List.getElem?_eq_some_iff.1 hv).1
  rw [World.cell?_setCells_in b vs o w h q hq, ← List.getElem?_eq_getElem hq]
  exact hv
theorem cell_out {w : World} {b o p : Nat} {vs : List Value} (h : p < o ∨ o + vs.length ≤ p) : (w.setCells b o vs).cell? ⟨b, p, none⟩ = w.cell? ⟨b, p, none⟩ :=
  World.cell?_setCells_out b vs o w ⟨b, p, none⟩ (fun _ _ => h)
/-- three parts -/
theorem three {A B C : List Value} {q : Nat} {v : Value} (h : (A ++ (B ++ C))[q]? = some v) : (q < A.length ∧ A[q]? = some v) ∨ (A.length ≤ q ∧ q < A.length + B.length ∧ B[q - A.length]? = some v) ∨ (A.length + B.length ≤ q ∧ C[q - (A.length + B.length)]? = some v) := by
  by_cases h1 : q < A.length
  · rw [List.getElem?_append_left h1] at h; exact Or.inl ⟨h1, h⟩
  · rw [List.getElem?_append_right (by omega)] at h
    by_cases h2 : q - A.length < B.length
    · rw [List.getElem?_append_left h2] at h; exact Or.inr (Or.inl ⟨by omega, by omega, h⟩)
    · rw [List.getElem?_append_right (by omega)] at h
      exact Or.inr (Or.inr ⟨by omega, by rw [← Nat.sub_sub]; exact h⟩)
end Go.Proofs.YtkdjhegkcfmkoaaGreat.AM
namespace Go.Proofs.YtkdjhegkcfmkoaaGreat.AM
open Go.AM Go.Shelf Go.RowKit Go.Lib
set_option maxRecDepth 100000
theorem arg3_spec {l : List AV} {k : AV → AV → AV → Bool} (hh : arg3 l k = true) : ∃ a b c, l = [a, b, c] ∧ k a b c = true := by
  match l, hh with
  | [], hh => cases hh
  | a :: l, hh =>
    obtain ⟨b, c, rfl, g⟩ := arg2_spec (show arg2 l (k a) = true from hh)
    exact ⟨a, b, c, rfl, g⟩
theorem list3 {φ : Phi} {a b c : AV} {vs : List Value} (h : RL φ [a, b, c] vs) : ∃ u v x, vs = [u, v, x] ∧ RV φ a u ∧ RV φ b v ∧ RV φ c x := by
  obtain ⟨u, r, rfl, h1, h2⟩ := RL_cons.1 h
  obtain ⟨v, x, rfl, h3, h4⟩ := list2 h2
  exact ⟨u, v, x, rfl, h1, h3, h4⟩
theorem arr3v {a : Array Value} {t u v : Value} (h : a.toList = [t, u, v]) : a = #[t, u, v] := by cases a; cases h; rfl
theorem onI64_spec {v : AV} {k : Nat → Bool} (hh : onI64 v k = true) : ∃ m, v = .int .i64 (Int.ofNat m) ∧ k m = true := by
  obtain ⟨kd, n, rfl, g⟩ := onInt_spec hh
  obtain ⟨e1, g1⟩ := boolRec_t g
  have e1 := beqK_spec e1
  subst e1
  cases n with
  | ofNat m => exact ⟨m, rfl, g1⟩
  | negSucc m => cases g1
theorem wide_spec {h : H} {b : Nm} {k : Bool} (hh : wide h b k = true) : ∃ n r t, h.at b = .mk n r t ∧ r ≠ 1 ∧ k = true := by
  unfold wide at hh
  rw [getB_eq] at hh
  obtain ⟨n, r, t, hB, g⟩ := onMk_spec hh
  refine ⟨n, r, t, hB, ?_⟩
  cases hr : r.beq 1 with
  | true => rw [hr] at g; cases g
  | false =>
    rw [hr] at g
    exact ⟨fun e => (by rw [(beq_iff _ _).2 e] at hr; cases hr), g⟩
theorem eqNm_refl (x : Nm) : eqNm x x = true := by
  obtain ⟨a, b, c, d, e⟩ := x
  have hb : ∀ d : D8, (numD d).beq (numD d) = true := fun d => by cases d <;> rfl
  show andB ((numD e).beq (numD e)) (andB ((numD d).beq (numD d)) (andB ((numD c).beq (numD c)) (andB ((numD b).beq (numD b)) ((numD a).beq (numD a))))) = true
  rw [hb, hb, hb, hb, hb]
  rfl
theorem optRec_none {x : Option Nat} {a : Bool} (h : (Option.rec a (fun _ => false) x : Bool) = true) : x = none ∧ a = true := by
  cases x with
  | none => exact ⟨rfl, h⟩
  | some _ => cases h
theorem rest_two {w : World} {c o p : Nat} {A B : List Value} : ((w.setCells c o A).setCells c p B).tape = w.tape ∧ ((w.setCells c o A).setCells c p B).os = w.os ∧ ((w.setCells c o A).setCells c p B).output = w.output := by
  obtain ⟨a1, a2, a3⟩ := rest_setCells c A o w
  obtain ⟨b1, b2, b3⟩ := rest_setCells c B p (w.setCells c o A)
  exact ⟨b1.trans a1, b2.trans a2, b3.trans a3⟩
/-- in place, in the midst -/
theorem mem_shift {φ : Phi} {h h' : H} {w : World} {b : Nm} {c d mm bn r o n m i kk vb voff : Nat} {tt t : Rws} {l0 lv : List AV} {cs vs : List Value} (hm : Mem φ h w) (hb : φ b = some (c, d, mm)) (hB : h.at b = .mk bn r tt) (hr : r ≠ 1) (I : InsOn w c (d + o) n kk i vb voff m cs vs)
    (hl0 : RL φ l0 cs) (hlv : RL φ lv vs) (hroom : n + m ≤ kk) (hk : o + kk * 3 = mm) (hR : RowsOf t (n + m) 3 (l0.take (i * 3) ++ (lv ++ l0.drop (i * 3))))
    (k1 : h'.nx.num = h.nx.num + 1) (k2 : ∀ x, h'.at x = if h.nx = x then .mk ((n + m) * 3) 3 t else if b = x then .no else h.at x) :
    ∃ φ', Kept φ w φ' ((w.drew.setCells c (d + o + (i + m) * 3) (cs.drop (i * 3))).setCells c (d + o + i * 3) vs) ∧ Old h.nx.num φ φ' ∧ Mem φ' h' ((w.drew.setCells c (d + o + (i + m) * 3) (cs.drop (i * 3))).setCells c (d + o + i * 3) vs) ∧
      RV φ' (.at (.sl h.nx 0 (n + m) none 3)) (.slice (some ⟨c, d + o, none⟩) (n + m) kk) := by
  have hi := I.hi
  have hA : (cs.take (i * 3)).length = i * 3 := by rw [List.length_take, I.lc]; omega
  have hD : (cs.drop (i * 3)).length = (n - i) * 3 := by rw [List.length_drop, I.lc]; omega
  have hin1 : ∀ j, j < (cs.drop (i * 3)).length → (w.drew.cell? ⟨c, d + o + (i + m) * 3 + j, none⟩).isSome = true := fun j hj => by
    rw [Nat.add_assoc]; exact (I.room _ (by omega)).1
  have hth1 : ∀ j, (w.cell? ⟨c, j, none⟩).isSome = true → ((w.drew.setCells c (d + o + (i + m) * 3) (cs.drop (i * 3))).cell? ⟨c, j, none⟩).isSome = true := fun j hj => isSome_setCells _ _ _ _ hin1 _ hj
  have hin2 : ∀ j, j < vs.length → ((w.drew.setCells c (d + o + (i + m) * 3) (cs.drop (i * 3))).cell? ⟨c, d + o + i * 3 + j, none⟩).isSome = true := fun j hj => hth1 _ (by
    rw [I.lv] at hj; rw [Nat.add_assoc]; exact (I.room _ (by omega)).1)
  have key := goes_on (w := w.drew) (w' := (w.drew.setCells c (d + o + (i + m) * 3) (cs.drop (i * 3))).setCells c (d + o + i * 3) vs) (fin := cs.take (i * 3) ++ (vs ++ cs.drop (i * 3))) hm.drew hb hB hr hR
    (RL_append (RL_take hl0 _) (RL_append hlv (RL_drop hl0 _))) (by
      intro y hy
      rcases List.mem_append.1 hy with hy | hy
      · exact I.oc y (List.mem_of_mem_take hy)
      · rcases List.mem_append.1 hy with hy | hy
        · exact I.ov y hy
        · exact I.oc y (List.mem_of_mem_drop hy)) hroom hk k1 k2 (by rw [size_setCells', size_setCells']) (fun x h1 h2 => by
      rw [World.heap_setCells_other _ c _ _ (by rw [size_setCells']; exact h1) h2, World.heap_setCells_other _ c _ _ h1 h2]) rest_two (fun x => by rw [World.frozen?_setCells, World.frozen?_setCells])
    (fun j hj => isSome_setCells _ _ _ _ hin2 _ (hth1 j hj)) (fun q v hq => by
      rcases three hq with ⟨g1, g2⟩ | ⟨g1, g2, g3⟩ | ⟨g1, g2⟩
      · rw [cell_out (by rw [hA] at g1; omega), cell_out (by rw [hA] at g1; omega)]
        rw [List.getElem?_take] at g2
        split at g2
        · exact I.cells q v g2
        · cases g2
      · rw [hA] at g1 g2 g3
        exact cell_in hin2 (by omega) g3
      · rw [hA, I.lv] at g1 g2
        rw [cell_out (by rw [I.lv]; omega)]
        exact cell_in hin1 (q := q - (i * 3 + m * 3)) (by omega) g2)
  obtain ⟨φ', q1, q2, q3, q4⟩ := key
  exact ⟨φ', (Kept.drew φ w).trans q1, q2, q3, q4⟩
/-- a new row, in the midst -/
theorem mem_grow {el : Nat} {z : List AV} {ti : TypeInfo} {zv : Value} (ht : ElemT sliceT el 3 z ti zv) {φ : Phi} {h h' : H} {w : World} {c p n m i kk g vb voff : Nat} {t : Rws} {l0 lv : List AV} {cs vs : List Value} (hm : Mem φ h w) (I : InsOn w c p n kk i vb voff m cs vs)
    (hl0 : RL φ l0 cs) (hlv : RL φ lv vs) (hg : n + m ≤ g) (hR : RowsOf t (n + m) 3 (l0.take (i * 3) ++ (lv ++ l0.drop (i * 3))))
    (k1 : h'.nx.num = h.nx.num + 1) (k2 : ∀ x, h'.at x = if h.nx = x then .mk ((n + m) * 3) 3 t else h.at x) :
    ∃ φ', Kept φ w φ' ((((w.alloc (.cells (grownRow zv cs i (n + m - i) g) el)).drew.setCells w.heap.size (i * 3) vs).drew).setCells w.heap.size ((i + m) * 3) (cs.drop (i * 3))) ∧ Old h.nx.num φ φ' ∧
      Mem φ' h' ((((w.alloc (.cells (grownRow zv cs i (n + m - i) g) el)).drew.setCells w.heap.size (i * 3) vs).drew).setCells w.heap.size ((i + m) * 3) (cs.drop (i * 3))) ∧
      RV φ' (.at (.sl h.nx 0 (n + m) none 3)) (.slice (some ⟨w.heap.size, 0, none⟩) (n + m) g) := by
  have hi := I.hi
  have hA : (cs.take (i * 3)).length = i * 3 := by rw [List.length_take, I.lc]; omega
  have hD : (cs.drop (i * 3)).length = (n - i) * 3 := by rw [List.length_drop, I.lc]; omega
  have hRs : (grownRow zv cs i (n + m - i) g).size = g * 3 := by
    unfold grownRow
    rw [Array.size_append, List.size_toArray, List.length_append, hA, Array.length_toList, size_zeroCells, size_zeroCells, ht.cells]
    omega
  have hRg : ∀ q, q < i * 3 → (grownRow zv cs i (n + m - i) g)[q]? = (cs.take (i * 3))[q]? := fun q hq => by
    unfold grownRow
    rw [Array.getElem?_append_left (by rw [List.size_toArray, List.length_append, hA]; omega), List.getElem?_toArray, List.getElem?_append_left (by rw [hA]; exact hq)]
  obtain ⟨ROW, hROW⟩ : ∃ ROW, ROW = grownRow zv cs i (n + m - i) g := ⟨_, rfl⟩
  rw [← hROW] at hRs hRg ⊢
  have hc0 : ∀ j, ((w.alloc (.cells ROW el)).drew).cell? ⟨w.heap.size, j, none⟩ = ROW[j]? := fun j => cell_alloc j
  have hs0 : ∀ j, j < g * 3 → (((w.alloc (.cells ROW el)).drew).cell? ⟨w.heap.size, j, none⟩).isSome = true := fun j hj => by
    rw [hc0, Array.getElem?_eq_getElem (by omega)]; rfl
  have hin1 : ∀ j, j < vs.length → (((w.alloc (.cells ROW el)).drew).cell? ⟨w.heap.size, i * 3 + j, none⟩).isSome = true := fun j hj => hs0 _ (by rw [I.lv] at hj; omega)
  have hs1 : ∀ j, j < g * 3 → (((w.alloc (.cells ROW el)).drew.setCells w.heap.size (i * 3) vs).drew.cell? ⟨w.heap.size, j, none⟩).isSome = true := fun j hj =>
    isSome_setCells w.heap.size vs (i * 3) (w.alloc (.cells ROW el)).drew hin1 j (hs0 j hj)
  have hin2 : ∀ j, j < (cs.drop (i * 3)).length → (((w.alloc (.cells ROW el)).drew.setCells w.heap.size (i * 3) vs).drew.cell? ⟨w.heap.size, (i + m) * 3 + j, none⟩).isSome = true := fun j hj => hs1 _ (by omega)
  exact begins (w := w) (w' := (((w.alloc (.cells ROW el)).drew.setCells w.heap.size (i * 3) vs).drew).setCells w.heap.size ((i + m) * 3) (cs.drop (i * 3))) (fin := cs.take (i * 3) ++ (vs ++ cs.drop (i * 3))) hm hR
    (RL_append (RL_take hl0 _) (RL_append hlv (RL_drop hl0 _))) (by
      intro y hy
      rcases List.mem_append.1 hy with hy | hy
      · exact I.oc y (List.mem_of_mem_take hy)
      · rcases List.mem_append.1 hy with hy | hy
        · exact I.ov y hy
        · exact I.oc y (List.mem_of_mem_drop hy)) hg k1 k2 (by
      rw [size_setCells']; show ((w.alloc (.cells ROW el)).drew.setCells w.heap.size (i * 3) vs).heap.size = _
      rw [size_setCells']; exact size_alloc _ _) (fun x hx => by
      rw [World.heap_setCells_other _ _ _ _ (by
        show x < ((w.alloc (.cells ROW el)).drew.setCells w.heap.size (i * 3) vs).heap.size
        rw [size_setCells']; show x < (w.alloc (.cells ROW el)).heap.size; rw [size_alloc]; omega) (by omega)]
      show ((w.alloc (.cells ROW el)).drew.setCells w.heap.size (i * 3) vs).heap[x]? = _
      rw [World.heap_setCells_other _ _ _ _ (by show x < (w.alloc (.cells ROW el)).heap.size; rw [size_alloc]; omega) (by omega)]
      exact heap_alloc_lt w _ hx) (by
      obtain ⟨a1, a2, a3⟩ := rest_setCells w.heap.size vs (i * 3) (w.alloc (.cells ROW el)).drew
      obtain ⟨b1, b2, b3⟩ := rest_setCells w.heap.size (cs.drop (i * 3)) ((i + m) * 3) ((w.alloc (.cells ROW el)).drew.setCells w.heap.size (i * 3) vs).drew
      exact ⟨b1.trans a1, b2.trans a2, b3.trans a3⟩) (fun j => by
      rw [World.frozen?_setCells]
      show ((w.alloc (.cells ROW el)).drew.setCells w.heap.size (i * 3) vs).frozen? _ = false
      rw [World.frozen?_setCells]
      exact frozen_alloc j) (fun j hj => isSome_setCells _ _ _ _ hin2 _ (hs1 j hj)) (fun q v hq => by
      rcases three hq with ⟨g1, g2⟩ | ⟨g1, g2, g3⟩ | ⟨g1, g2⟩
      · rw [cell_out (by rw [hA] at g1; omega)]
        show ((w.alloc (.cells ROW el)).drew.setCells w.heap.size (i * 3) vs).cell? _ = _
        rw [cell_out (by rw [hA] at g1; omega), hc0, hRg q (by omega)]
        exact g2
      · rw [hA] at g1 g2 g3
        rw [cell_out (by rw [I.lv] at g2; omega)]
        exact cell_in hin1 (q := q - i * 3) (by omega) g3
      · rw [hA, I.lv] at g1 g2
        exact cell_in hin2 (q := q - (i * 3 + m * 3)) (by omega) g2)
end Go.Proofs.YtkdjhegkcfmkoaaGreat.AM
