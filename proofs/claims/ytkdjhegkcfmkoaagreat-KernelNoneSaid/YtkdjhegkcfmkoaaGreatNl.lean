/- What the kernel's functions answer of a nil kernel, and kernel.Create and kernel.Open without a disk: as our machine evaluates them. -/
import Derived.Test.YtkdjhegkcfmkoaaGreatMq
import Derived.KernelRfl
namespace Go.Proofs.YtkdjhegkcfmkoaaGreat.AM
open Go.AM Go.RowKit
set_option maxRecDepth 100000
mutual
/-- a value without addresses -/
def cv (x : AV) : Value := match x with
  | .at .nilp => .pointer none
  | .at .nils => .slice none 0 0
  | .at (.flt n) => .float .f64 n
  | .bool b => .bool b
  | .int k n => .int k n
  | .row .agg l => .agg (cvl l).toArray
  | .row .tup l => .tuple (cvl l).toArray
  | _ => undef
def cvl (l : List AV) : List Value := match l with
  | [] => []
  | x :: l => cv x :: cvl l
end
mutual
def isCv (x : AV) : Bool := match x with
  | .at .nilp => true
  | .at .nils => true
  | .at (.flt _) => true
  | .bool _ => true
  | .int _ _ => true
  | .row .agg l => isCvl l
  | .row .tup l => isCvl l
  | _ => false
def isCvl (l : List AV) : Bool := match l with
  | [] => true
  | x :: l => isCv x && isCvl l
end
mutual
theorem cv_is {φ : Phi} : ∀ (x : AV) (v : Value), isCv x = true → RV φ x v → v = cv x
  | .at a, v, h, hr => by
    have hr := RV_at.1 hr
    cases a <;> first | exact hr | (simp [isCv] at h)
  | .bool b, v, _, hr => RV_bool.1 hr
  | .int k n, v, _, hr => RV_int.1 hr
  | .ptr b o, v, h, _ => by simp [isCv] at h
  | .row .agg l, v, h, hr => by
    obtain ⟨cs, rfl, h2, _⟩ := RV_agg.1 hr
    have := cvl_is l cs.toList (by simpa [isCv] using h) h2
    rw [cv, ← this]
  | .row .tup l, v, h, hr => by
    obtain ⟨cs, rfl, h2⟩ := RV_tup.1 hr
    have := cvl_is l cs.toList (by simpa [isCv] using h) h2
    rw [cv, ← this]
  | .row (.ifc t) l, v, h, _ => by simp [isCv] at h
  | .row (.fn f n) l, v, h, _ => by simp [isCv] at h
theorem cvl_is {φ : Phi} : ∀ (l : List AV) (vs : List Value), isCvl l = true → RL φ l vs → vs = cvl l
  | [], vs, _, hr => by rw [RL_nil] at hr; rw [hr, cvl]
  | x :: l, vs, h, hr => by
    obtain ⟨v, r, rfl, h1, h2⟩ := RL_cons.1 hr
    rw [isCvl, Bool.and_eq_true] at h
    rw [cvl, cv_is x v h.1 h1, cvl_is l r h.2 h2]
end
/-- a call whose answer is a value without addresses -/
theorem call_value {n g : Nat} {l : List AV} (a : AV) {v : Value} (hp : primF g = none) (hh : callF n g l H.none (fun v _ => eqAV v a) = true) (ha : isCv a = true) (hv : cv a = v) {vs : Array Value} (hr : RL phi0 l vs.toList) (w : World) :
    Calls Tryz.prog g vs w fun e w' => e = .returned v ∧ Below w.heap.size w w' := by
  refine (call_answers a hp hh hr).mono ?_
  rintro e w' ⟨φ', r', rfl, h1, h2⟩
  exact ⟨by rw [cv_is a r' ha h1, hv], h2⟩
theorem rl1 {φ : Phi} {a : AV} {v : Value} (h : RV φ a v) : RL φ [a] [v] := RL_cons.2 ⟨_, _, rfl, h, by rw [RL_nil]⟩
theorem rl2 {φ : Phi} {a b : AV} {v u : Value} (h : RV φ a v) (h2 : RV φ b u) : RL φ [a, b] [v, u] := RL_cons.2 ⟨_, _, rfl, h, rl1 h2⟩
theorem rl3 {φ : Phi} {a b c : AV} {v u x : Value} (h : RV φ a v) (h2 : RV φ b u) (h3 : RV φ c x) : RL φ [a, b, c] [v, u, x] := RL_cons.2 ⟨_, _, rfl, h, rl2 h2 h3⟩
theorem rnil {φ : Phi} : RV φ (.at .nilp) (.pointer none) := RV_at.2 rfl
theorem rint {φ : Phi} {k : IntKind} {n : Int} : RV φ (.int k n) (.int k n) := RV_int.2 rfl
theorem rany {φ : Phi} {v : Value} : RV φ .any v := RV_at.2 trivial
abbrev i64 (n : Int) : AV := .int .i64 n
abbrev one : AV := .int .i64 (Int.ofNat 1)
abbrev zero : AV := .int .i64 (Int.ofNat 0)
theorem round_nil (w : World) : Calls Tryz.prog 6 #[.pointer none] w fun e w' => e = .returned (.tuple #[.int .i64 0, .int .i64 1]) ∧ Below w.heap.size w w' :=
  call_value (n := 1000) (l := [.at .nilp]) (.tup [zero, one]) (by kernel_rfl) (by kernel_rfl) (by kernel_rfl) rfl (rl1 rnil) w
theorem history_nil (n m : Int) (w : World) : Calls Tryz.prog 7 #[.pointer none, .int .i64 n, .int .i64 m] w fun e w' => e = .returned (.tuple #[.slice none 0 0, .int .i64 1]) ∧ Below w.heap.size w w' :=
  call_value (n := 1000) (l := [.at .nilp, i64 n, i64 m]) (.tup [.at .nils, one]) (by kernel_rfl) (by kernel_rfl) (by kernel_rfl) rfl (rl3 rnil rint rint) w
theorem len_nil (w : World) : Calls Tryz.prog 8 #[.pointer none] w fun e w' => e = .returned (.tuple #[.int .i64 0, .int .i64 1]) ∧ Below w.heap.size w w' :=
  call_value (n := 1000) (l := [.at .nilp]) (.tup [zero, one]) (by kernel_rfl) (by kernel_rfl) (by kernel_rfl) rfl (rl1 rnil) w
theorem left_nil (w : World) : Calls Tryz.prog 9 #[.pointer none] w fun e w' => e = .returned (.tuple #[.int .i64 0, .slice none 0 0, .int .i64 1]) ∧ Below w.heap.size w w' :=
  call_value (n := 1000) (l := [.at .nilp]) (.tup [zero, .at .nils, one]) (by kernel_rfl) (by kernel_rfl) (by kernel_rfl) rfl (rl1 rnil) w
theorem done_nil (w : World) : Calls Tryz.prog 10 #[.pointer none] w fun e w' => e = .returned (.tuple #[.bool false, .int .i64 1]) ∧ Below w.heap.size w w' :=
  call_value (n := 1000) (l := [.at .nilp]) (.tup [.bool false, one]) (by kernel_rfl) (by kernel_rfl) (by kernel_rfl) rfl (rl1 rnil) w
theorem create_nil {a b c d e f : Value} (h : ∀ y ∈ [a, b, c, d, e, f], y.oneCell' = true) (n : Int) (w : World) : Calls Tryz.prog 11 #[.pointer none, .agg #[a, b, c, d, e, f], .int .i64 n] w fun e w' => e = .returned (.tuple #[.pointer none, .int .i64 1]) ∧ Below w.heap.size w w' :=
  call_value (n := 1000) (l := [.at .nilp, .agg [.any, .any, .any, .any, .any, .any], i64 n]) (.tup [.at .nilp, one]) (by kernel_rfl) (by kernel_rfl) (by kernel_rfl) rfl
    (rl3 rnil (RV_agg.2 ⟨_, rfl, by simp only [RL_cons, RL_nil]; exact ⟨_, _, rfl, rany, _, _, rfl, rany, _, _, rfl, rany, _, _, rfl, rany, _, _, rfl, rany, _, _, rfl, rany, rfl⟩, h⟩) rint) w
theorem open_nil (n : Int) (w : World) : Calls Tryz.prog 12 #[.pointer none, .int .i64 n] w fun e w' => e = .returned (.tuple #[.pointer none, .int .i64 1]) ∧ Below w.heap.size w w' :=
  call_value (n := 1000) (l := [.at .nilp, i64 n]) (.tup [.at .nilp, one]) (by kernel_rfl) (by kernel_rfl) (by kernel_rfl) rfl (rl2 rnil rint) w
theorem deliver_nil (n : Int) (w : World) : Calls Tryz.prog 13 #[.pointer none, .int .i64 n] w fun e w' => e = .returned (.int .i64 1) ∧ Below w.heap.size w w' :=
  call_value (n := 1000) (l := [.at .nilp, i64 n]) one (by kernel_rfl) (by kernel_rfl) (by kernel_rfl) rfl (rl2 rnil rint) w
theorem work_nil (n : Int) (w : World) : Calls Tryz.prog 14 #[.pointer none, .int .i64 n] w fun e w' => e = .returned (.int .i64 1) ∧ Below w.heap.size w w' :=
  call_value (n := 1000) (l := [.at .nilp, i64 n]) one (by kernel_rfl) (by kernel_rfl) (by kernel_rfl) rfl (rl2 rnil rint) w
theorem evict_nil (n : Int) (w : World) : Calls Tryz.prog 15 #[.pointer none, .int .i64 n] w fun e w' => e = .returned (.int .i64 1) ∧ Below w.heap.size w w' :=
  call_value (n := 1000) (l := [.at .nilp, i64 n]) one (by kernel_rfl) (by kernel_rfl) (by kernel_rfl) rfl (rl2 rnil rint) w
theorem lazy_nil (w : World) : Calls Tryz.prog 16 #[.pointer none, .bool true] w fun e w' => e = .returned (.int .i64 1) ∧ Below w.heap.size w w' :=
  call_value (n := 1000) (l := [.at .nilp, .bool true]) one (by kernel_rfl) (by kernel_rfl) (by kernel_rfl) rfl (rl2 rnil (RV_bool.2 rfl)) w
abbrev noModel : Value := .agg #[.int .i64 0, .float .f64 0, .slice none 0 0, .slice none 0 0, .slice none 0 0, .slice none 0 0]
theorem model_nil (w : World) : Calls Tryz.prog 18 #[.pointer none] w fun e w' => e = .returned noModel ∧ Below w.heap.size w w' :=
  call_value (n := 1000) (l := [.at .nilp]) (.agg [zero, .at (.flt 0), .at .nils, .at .nils, .at .nils, .at .nils]) (by kernel_rfl) (by kernel_rfl) (by kernel_rfl) rfl (rl1 rnil) w
theorem pool_nil (w : World) : Calls Tryz.prog 19 #[.pointer none] w fun e w' => e = .returned (.pointer none) ∧ Below w.heap.size w w' :=
  call_value (n := 1000) (l := [.at .nilp]) (.at .nilp) (by kernel_rfl) (by kernel_rfl) (by kernel_rfl) rfl (rl1 rnil) w
theorem same_none (w : World) : Calls Tryz.prog 17 #[noModel, noModel] w fun e w' => e = .returned (.bool true) ∧ Below w.heap.size w w' := by
  have hm : RV phi0 (.agg [zero, .at (.flt 0), .at .nils, .at .nils, .at .nils, .at .nils]) noModel := RV_agg.2 ⟨_, rfl, by
    simp only [RL_cons, RL_nil, RV_int, RV_at]
    exact ⟨_, _, rfl, rfl, _, _, rfl, rfl, _, _, rfl, rfl, _, _, rfl, rfl, _, _, rfl, rfl, _, _, rfl, rfl, rfl⟩, by decide⟩
  exact call_value (n := 1000) (l := [.agg [zero, .at (.flt 0), .at .nils, .at .nils, .at .nils, .at .nils], .agg [zero, .at (.flt 0), .at .nils, .at .nils, .at .nils, .at .nils]]) (.bool true) (by kernel_rfl) (by kernel_rfl) (by kernel_rfl) rfl (rl2 hm hm) w
end Go.Proofs.YtkdjhegkcfmkoaaGreat.AM
