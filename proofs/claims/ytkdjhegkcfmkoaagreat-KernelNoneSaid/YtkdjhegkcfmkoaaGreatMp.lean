/- The abstract machine over this program: slices.Insert, and how texts compare, are as they are taken to be. -/
import Derived.Test.YtkdjhegkcfmkoaaGreatMo
import Derived.Lib.Bytealg
namespace Go.Proofs.YtkdjhegkcfmkoaaGreat.AM
open Go.AM Go.Shelf Go.RowKit Go.Lib
set_option maxRecDepth 100000
theorem k2put {h h' : H} {b : Nm} {B : Blk} (k2 : ∀ c, h'.at c = if (h.put b .no).nx = c then B else (h.put b .no).at c) : ∀ x, h'.at x = if h.nx = x then B else if b = x then .no else h.at x := fun x => by
  rw [k2, H.at_put, H.nx_put]
theorem prim_insert : PrimAt 257 (p_insert 3) := by
  obtain ⟨el, z, ti, zv, ht⟩ := elemE
  intro l h c hh
  obtain ⟨s, iv, v, rfl, g21⟩ := arg3_spec (show arg3 l _ = true from hh)
  obtain ⟨i, rfl, g22⟩ := onI64_spec g21
  rcases onSl_spec g22 with ⟨vb, vo, m, vk, ve, rfl, g23⟩ | ⟨_, g23⟩ | ⟨_, g23⟩
  · obtain ⟨e1, g24⟩ := boolRec_t g23
    have e1 : 3 = ve := (beq_iff 3 ve).1 e1
    subst e1
    obtain ⟨e2, g25⟩ := boolRec_f g24
    have hm0 : 0 < m := Nat.pos_of_ne_zero fun e => by rw [(beq_iff _ _).2 e] at e2; cases e2
    obtain ⟨vn, vr, vt, hVB, hvr, g26⟩ := wide_spec g25
    obtain ⟨vn', vr', vt', hVB', hvp, g27⟩ := loadA_spec g26
    rw [hVB] at hVB'
    injection hVB' with i1 i2 i3
    subst i1; subst i2; subst i3
    obtain ⟨lv, g28, hrowv⟩ := rowAt_spec g27
    rcases onSl_spec g28 with ⟨b, o, n, k, es, rfl, g29⟩ | ⟨rfl, g29⟩ | ⟨_, g29⟩
    · obtain ⟨e3, g30⟩ := boolRec_t g29
      have e3 : 3 = es := (beq_iff 3 es).1 e3
      subst e3
      obtain ⟨rfl, g31⟩ := optRec_none g30
      rw [forceN_eq] at g31
      obtain ⟨e4, g32⟩ := boolRec_t g31
      have e4 : i ≤ n := (ble_iff _ _).1 e4
      obtain ⟨e5, g33⟩ := boolRec_t g32
      have e5 : n + m ≤ 100000 := (ble_iff _ 100000).1 e5
      obtain ⟨e6, g34⟩ := boolRec_f g33
      obtain ⟨bn, r, t, hB, hr1, g35⟩ := wide_spec g34
      obtain ⟨bn', r', t', hB', hp, g36⟩ := loadA_spec g35
      rw [hB] at hB'
      injection hB' with i1 i2 i3
      subst i1; subst i2; subst i3
      obtain ⟨l0, g37, hrow⟩ := rowAt_spec g36
      rw [ltakeK_eq, ldropK_eq, lappK_eq, lappK_eq, putB_eq] at g37
      obtain ⟨u1, g38, hu1⟩ := rowsBlk_spec g37
      obtain ⟨h', k1, k2, k3⟩ := newB_spec g38
      have k2' := k2put k2
      have k1' : h'.nx.num = h.nx.num + 1 := k1
      refine ⟨_, h', k3, by rw [k1']; exact Nat.le_succ _, fun φ vs w oo a next Q hm hr hn => ?_⟩
      obtain ⟨sv, nv, xv, hvs, q1, q2, q3⟩ := list3 hr
      rw [arr3v hvs]
      obtain ⟨cc, d, mm, kk, hb, rfl, hnk, hk⟩ := RV_at.1 q1
      have q2 := RV_int.1 q2
      subst q2
      obtain ⟨vcc, vd, vmm, vkk, hvb, rfl, _⟩ := RV_sl q3
      obtain ⟨cs, lc, hl0, oc, hcs⟩ := Mem.cells hm hb hB hp hrow
      obtain ⟨vals, lv', hlv, ov, hvals⟩ := Mem.cells hm hvb hVB hvp hrowv
      obtain ⟨_, _, _, _, e9⟩ := Mem.cells_there hm hb hB
      have I : InsOn w cc (d + o) n kk i vcc (vd + vo) m cs vals := by
        refine ⟨e4, hm0, hnk, e5, fun e => ?_, lc, lv', oc, ov, fun j v hj => ?_, fun j v hj => ?_, fun j hj => ?_, (Mem.mark hm hvb hVB).resolve_left hvr⟩
        · subst e
          have := hm.inj b vb _ _ _ _ _ hb hvb (by rw [hB]; intro e; cases e) (by rw [hVB]; intro e; cases e)
          subst this
          rw [eqNm_refl] at e6; cases e6
        · have := hcs j v hj
          rwa [add_eq] at this
        · have := hvals j v hj
          rwa [add_eq] at this
        · have := e9 (o + j) (by omega)
          rwa [← Nat.add_assoc] at this
      have hR : RowsOf u1 (n + m) 3 (l0.take (i * 3) ++ (lv ++ l0.drop (i * 3))) := rows_of (by omega) (by
        have h1 := (RL_get.1 hl0).1
        have h2 := (RL_get.1 hlv).1
        have lc : cs.length = n * 3 := lc
        have lv' : vals.length = m * 3 := lv'
        rw [List.length_append, List.length_append, List.length_take, List.length_drop]
        omega) hu1
      have hcf : ∀ args, (callFunc 257 args).run Tryz.prog w = .ok (.enter 257 args) w := fun args => Tryz.call257 args w
      rw [hcf, Oper.upon_enter]
      by_cases hroom : n + m ≤ kk
      · by_cases hin : i = n
        · subst hin
          refine (insert_end_room ht I hroom).mono ?_
          rintro e w' ⟨rfl, rfl⟩
          have hM : More φ w cc (d + o) i 3 (i + m) u1 lv cs := by
            have lcs := (RL_get.1 hl0).1
            have lc : cs.length = i * 3 := lc
            rw [List.take_of_length_le (by omega), List.drop_of_length_le (by omega), List.append_nil] at hR
            exact more_rows hl0 oc lc (fun j v hj => by rw [add_eq]; exact I.cells j v hj) hlv I.lv rfl (by omega) (fun _ _ => ⟨hR.cap, hR.rows, hR.cells⟩)
          obtain ⟨φ', p1, p2, p3, p4⟩ := room_ok hm hb hB (by omega) rfl hM hlv ov I.lv hk hroom (fun e => absurd e hr1) k1' k2'
          exact hn φ' _ _ p1 p2 p3 p4
        · refine (insert_shift ht I (by omega) hroom).mono ?_
          rintro e w' ⟨rfl, rfl⟩
          obtain ⟨φ', p1, p2, p3, p4⟩ := mem_shift hm hb hB hr1 I hl0 hlv hroom hk hR k1' k2'
          exact hn φ' _ _ p1 p2 p3 p4
      · have k2n : ∀ x, h'.at x = if (h.put b .no).nx = x then .mk ((n + m) * 3) 3 u1 else (h.put b .no).at x := k2
        by_cases hin : i = n
        · subst hin
          refine (insert_end_grow ht hm0 e5 hnk (by omega) lc I.lv ov I.vals (by intro e; cases e) (fun a ha j v hj => by injection ha with ha; subst ha; exact hcs j v hj)).mono ?_
          rintro e w' ⟨rfl, rfl⟩
          have hM : More φ w cc (d + o) i 3 (i + m) u1 lv cs := by
            have lcs := (RL_get.1 hl0).1
            have lc : cs.length = i * 3 := lc
            rw [List.take_of_length_le (by omega), List.drop_of_length_le (by omega), List.append_nil] at hR
            exact more_rows hl0 oc lc (fun j v hj => by rw [add_eq]; exact I.cells j v hj) hlv I.lv rfl (by omega) (fun _ _ => ⟨hR.cap, hR.rows, hR.cells⟩)
          obtain ⟨φ', p1, p2, p3, p4⟩ := grown_ok (el := el) (hm.kill b) (by omega) rfl hM hlv ov I.lv (grownCap_ge w (i + m) kk el) (zs := Builtin.zeroCells zv.cells (grownCap w (i + m) kk el - (i + m))) (by rw [size_zeroCells, ht.cells]) k1 k2n
          exact hn φ' _ _ p1 p2 p3 p4
        · refine (insert_grow ht I (by omega) (by omega)).mono ?_
          rintro e w' ⟨rfl, rfl⟩
          obtain ⟨φ', p1, p2, p3, p4⟩ := mem_grow ht (hm.kill b) I hl0 hlv (grownCap_ge w (n + m) kk el) hR k1 k2n
          exact hn φ' _ _ p1 p2 p3 p4
    · obtain ⟨e4, g39⟩ := boolRec_t g29
      have e4 := (beq_iff _ _).1 e4
      subst e4
      obtain ⟨e5, g40⟩ := boolRec_t g39
      have e5 : m ≤ 100000 := (ble_iff _ 100000).1 e5
      obtain ⟨u1, g41, hu1⟩ := rowsBlk_spec g40
      obtain ⟨h', k1, k2, k3⟩ := newB_spec g41
      refine ⟨_, h', k3, by rw [k1]; exact Nat.le_succ _, fun φ vs w oo a next Q hm hr hn => ?_⟩
      obtain ⟨sv, nv, xv, hvs, q1, q2, q3⟩ := list3 hr
      rw [arr3v hvs]
      have q1 : sv = .slice none 0 0 := RV_at.1 q1
      subst q1
      have q2 := RV_int.1 q2
      subst q2
      obtain ⟨vcc, vd, vmm, vkk, hvb, rfl, _⟩ := RV_sl q3
      obtain ⟨vals, lv', hlv, ov, hvals⟩ := Mem.cells hm hvb hVB hvp hrowv
      have hvv : ∀ (j : Nat) v, vals[j]? = some v → w.cell? ⟨vcc, vd + vo + j, none⟩ = some v := fun j v hj => by
        have := hvals j v hj
        rwa [add_eq] at this
      have hcf : ∀ args, (callFunc 257 args).run Tryz.prog w = .ok (.enter 257 args) w := fun args => Tryz.call257 args w
      rw [hcf, Oper.upon_enter]
      refine (insert_end_grow (n := 0) (c := 0) (cs := []) ht hm0 (by omega) (by omega) (by omega) (by simp) lv' ov hvv (fun _ => rfl) (by intro a ha; cases ha)).mono ?_
      rintro e w' ⟨rfl, rfl⟩
      have hM : More φ w 0 0 0 3 (0 + m) u1 lv [] := more_rows (l0 := []) (by rw [RL_nil]) (by intro y hy; cases hy) (by simp) (fun j v hj => by simp at hj) hlv lv' rfl (by omega) (by simpa using hu1)
      obtain ⟨φ', p1, p2, p3, p4⟩ := grown_ok (el := el) hm (by omega) rfl hM hlv ov lv' (grownCap_ge w (0 + m) 0 el) (zs := Builtin.zeroCells zv.cells (grownCap w (0 + m) 0 el - (0 + m))) (by rw [size_zeroCells, ht.cells]) k1 (by rw [Nat.zero_add]; exact k2)
      simp only [Nat.zero_add] at p1 p3 p4 ⊢
      exact hn φ' _ _ p1 p2 p3 p4
    · cases g29
  · cases g23
  · cases g23
end Go.Proofs.YtkdjhegkcfmkoaaGreat.AM
namespace Go.Proofs.YtkdjhegkcfmkoaaGreat.AM
open Go.AM Go.Shelf Go.RowKit Go.Lib
set_option maxRecDepth 100000
theorem compare_is (l m : List UInt8) : compareBytes l m = if l = m then 0 else if Op.bytesLess l m = true then -1 else 1 := by
  induction l generalizing m with
  | nil => cases m <;> simp [compareBytes, Op.bytesLess]
  | cons a t ih => cases m with
    | nil => simp [compareBytes, Op.bytesLess]
    | cons b r =>
      rw [compareBytes, Op.bytesLess]
      by_cases h1 : a < b
      · have hne : a ≠ b := fun e => by subst e; exact absurd h1 (by simp)
        simp [h1, hne]
      · by_cases h2 : b < a
        · have hne : a ≠ b := fun e => by subst e; exact absurd h2 (by simp)
          simp [h1, h2, hne]
        · have he : a = b := by
            rw [UInt8.lt_iff_toNat_lt] at h1 h2
            exact UInt8.toNat_inj.1 (by omega)
          subst he
          rw [if_neg h1, if_neg h2, ih]
          simp
theorem prim_cmp : PrimAt 403 p_cmp := prim_value fun l h c hh => by
  obtain ⟨x, y, rfl, g⟩ := arg2_spec hh
  obtain ⟨n, a, rfl, g1⟩ := onStr_spec g
  obtain ⟨n', b, rfl, g2⟩ := onStr_spec g1
  have key : ∃ k : Int, c (.int .i64 k) h = true ∧ ∀ s t : ByteArray, strL s = a → strL t = b → compareBytes s.data.toList t.data.toList = k := by
    have he : ∀ (s t : ByteArray), strL s = a → strL t = b → leqL a b = (s.data.toList == t.data.toList) := by rintro s t rfl rfl; rw [leqL_eq]; exact u8_inj _ _
    have hl : ∀ (s t : ByteArray), strL s = a → strL t = b → lltL a b = Op.bytesLess s.data.toList t.data.toList := by rintro s t rfl rfl; exact lltL_eq _ _
    cases h1 : leqL a b with
    | true =>
      rw [h1] at g2
      refine ⟨0, g2, fun s t hs ht => ?_⟩
      rw [he s t hs ht, beq_iff_eq] at h1
      rw [compare_is, if_pos h1]
    | false =>
      have g2 : (Bool.rec (Bool.rec (c (.int .i64 (Int.ofNat 1)) h) (c (.int .i64 (Int.negSucc 0)) h) (lltL a b)) (c (.int .i64 (Int.ofNat 0)) h) (leqL a b) : Bool) = true := g2
      rw [h1] at g2
      cases h2 : lltL a b with
      | true =>
        have g2 : (Bool.rec (c (.int .i64 (Int.ofNat 1)) h) (c (.int .i64 (Int.negSucc 0)) h) (lltL a b) : Bool) = true := g2
        rw [h2] at g2
        refine ⟨Int.negSucc 0, g2, fun s t hs ht => ?_⟩
        rw [he s t hs ht, beq_eq_false_iff_ne] at h1
        rw [hl s t hs ht] at h2
        rw [compare_is, if_neg h1, if_pos h2]
        rfl
      | false =>
        have g2 : (Bool.rec (c (.int .i64 (Int.ofNat 1)) h) (c (.int .i64 (Int.negSucc 0)) h) (lltL a b) : Bool) = true := g2
        rw [h2] at g2
        refine ⟨1, g2, fun s t hs ht => ?_⟩
        rw [he s t hs ht, beq_eq_false_iff_ne] at h1
        rw [hl s t hs ht] at h2
        rw [compare_is, if_neg h1, if_neg (by rw [h2]; simp)]
  obtain ⟨k, g3, hk⟩ := key
  refine ⟨_, g3, fun φ vs w hr => ⟨.int .i64 k, ?_, by rw [RV_int]⟩⟩
  obtain ⟨u, v, hu, h1, h2⟩ := list2 hr
  obtain ⟨s, rfl, q1, _⟩ := RV_at.1 h1
  obtain ⟨t, rfl, q2, _⟩ := RV_at.1 h2
  rw [arr2v hu, run_callFunc_extern (e := Extern.BytealgCompare.compare) Tryz.func403 (by kernel_rfl) (by kernel_rfl) (by kernel_rfl) (by kernel_rfl), run_compareString, hk s t q1 q2]
  rfl
end Go.Proofs.YtkdjhegkcfmkoaaGreat.AM
