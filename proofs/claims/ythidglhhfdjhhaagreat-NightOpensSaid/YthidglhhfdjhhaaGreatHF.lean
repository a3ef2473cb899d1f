/- NightOpens over the evaluator. -/
import Derived.Test.YthidglhhfdjhhaaGreatHE
import Derived.Test.YthidglhhfdjhhaaGreatW8
import Derived.Test.YthidglhhfdjhhaaGreatZE
set_option linter.unusedVariables false
set_option linter.unusedSimpArgs false
namespace Go.Wz
open Go
/-- calls by the bodies; the look at an example is taken by its answer -/
noncomputable abbrev CY (N d : Nat) : CallT := callY Proofs.Tryz.prog (hookT 16) hints N d
theorem CY_calls (N : Nat) (hN : 5000 ≤ N) : CallsOf (CY N) N where
  big := hN
  func := fun d f args h hf => by
    have h16 : f ≠ 16 := fun hh => by subst hh; simp [hooked] at hf
    show hookT 16 (stepY _ _ _ _) (.func f) args h = _
    rw [hookT_ne h16]; rfl
  yield := fun d l args h => rfl
theorem CY_works (N d : Nat) (h : H) : CY N (d + 1) (.func 16) [] h = some (.one (.bool true), h) := hookT_self _ _ _
theorem CY_ok (N d : Nat) : ∀ B, CallOK Proofs.Tryz.prog B (CY N d) := callY_ok tryz_names tryz_mixed (fun call hc B => hookT_ok hc callW_ok works_c B) hints N d

theorem okr_nil {h : H} {r : List Value} : OkR h [] r ↔ r = [] := by unfold OkR; exact Iff.rfl
theorem okr_cons {h : H} {k : Kd} {ks : List Kd} {r : List Value} : OkR h (k :: ks) r ↔ ∃ v t, r = v :: t ∧ OkC h k v ∧ OkR h ks t := by conv => lhs; unfold OkR
theorem okc_int {h : H} {v : Value} (o : OkC h (.int .i64) v) : ∃ n, v = I n := by unfold OkC at o; obtain ⟨n, rfl, _⟩ := o; exact ⟨n, rfl⟩
theorem okc_bool {h : H} {v : Value} (o : OkC h .bool v) : ∃ b, v = .bool b := by unfold OkC at o; exact o
theorem rows_map {α : Type} {enc : α → List Value} : ∀ {rows : List (List Value)}, (∀ r ∈ rows, ∃ a, r = enc a) → ∃ l : List α, rows = l.map enc
  | [], _ => ⟨[], rfl⟩
  | r :: rows, h => by
    obtain ⟨a, rfl⟩ := h r (by simp)
    obtain ⟨l, rfl⟩ := rows_map (rows := rows) fun r hr => h r (by simp [hr])
    exact ⟨a :: l, rfl⟩
theorem okc_sl {α : Type} {enc : α → List Value} {h : H} {ks : List Kd} {v : Value} (o : OkC h (.sl ks) v) (hk : ∀ r, OkR h ks r → ∃ a, r = enc a) : ∃ l : List α, RS h ks.length v (l.map enc) := by
  unfold OkC at o
  obtain ⟨rows, h1, h2⟩ := o
  obtain ⟨l, rfl⟩ := rows_map fun r hr => hk r (h2 r hr)
  exact ⟨l, h1⟩
theorem row_int {h : H} (r : List Value) (o : OkR h [.int .i64] r) : ∃ a : Int, r = [I a] := by
  obtain ⟨v, t, rfl, c, o⟩ := okr_cons.1 o
  obtain rfl := okr_nil.1 o
  obtain ⟨n, rfl⟩ := okc_int c
  exact ⟨n, rfl⟩
theorem row_booth {h : H} (r : List Value) (o : OkR h [.int .i64, .int .i64, .int .i64, .int .i64, .bool] r) : ∃ a : Booth, r = a.enc := by
  obtain ⟨v1, t, rfl, c1, o⟩ := okr_cons.1 o
  obtain ⟨v2, t, rfl, c2, o⟩ := okr_cons.1 o
  obtain ⟨v3, t, rfl, c3, o⟩ := okr_cons.1 o
  obtain ⟨v4, t, rfl, c4, o⟩ := okr_cons.1 o
  obtain ⟨v5, t, rfl, c5, o⟩ := okr_cons.1 o
  obtain rfl := okr_nil.1 o
  obtain ⟨n1, rfl⟩ := okc_int c1
  obtain ⟨n2, rfl⟩ := okc_int c2
  obtain ⟨n3, rfl⟩ := okc_int c3
  obtain ⟨n4, rfl⟩ := okc_int c4
  obtain ⟨n5, rfl⟩ := okc_bool c5
  exact ⟨⟨n1, n2, n3, n4, n5⟩, rfl⟩
theorem row_rule {h : H} (r : List Value) (o : OkR h [.int .i64, .int .i64, .int .i64, .bool] r) : ∃ a : Rule, r = a.enc := by
  obtain ⟨v1, t, rfl, c1, o⟩ := okr_cons.1 o
  obtain ⟨v2, t, rfl, c2, o⟩ := okr_cons.1 o
  obtain ⟨v3, t, rfl, c3, o⟩ := okr_cons.1 o
  obtain ⟨v4, t, rfl, c4, o⟩ := okr_cons.1 o
  obtain rfl := okr_nil.1 o
  obtain ⟨n1, rfl⟩ := okc_int c1
  obtain ⟨n2, rfl⟩ := okc_int c2
  obtain ⟨n3, rfl⟩ := okc_int c3
  obtain ⟨n4, rfl⟩ := okc_bool c4
  exact ⟨⟨n1, n2, n3, n4⟩, rfl⟩
theorem row_int4 {h : H} (r : List Value) (o : OkR h [.int .i64, .int .i64, .int .i64, .int .i64] r) : ∃ a b c d : Int, r = [I a, I b, I c, I d] := by
  obtain ⟨v1, t, rfl, c1, o⟩ := okr_cons.1 o
  obtain ⟨v2, t, rfl, c2, o⟩ := okr_cons.1 o
  obtain ⟨v3, t, rfl, c3, o⟩ := okr_cons.1 o
  obtain ⟨v4, t, rfl, c4, o⟩ := okr_cons.1 o
  obtain rfl := okr_nil.1 o
  obtain ⟨n1, rfl⟩ := okc_int c1
  obtain ⟨n2, rfl⟩ := okc_int c2
  obtain ⟨n3, rfl⟩ := okc_int c3
  obtain ⟨n4, rfl⟩ := okc_int c4
  exact ⟨n1, n2, n3, n4, rfl⟩
theorem row_entry {h : H} (r : List Value) (o : OkR h [.int .i64, .int .i64, .int .i64, .int .i64, .int .i64] r) : ∃ a : Entry, r = a.enc := by
  obtain ⟨v1, t, rfl, c1, o⟩ := okr_cons.1 o
  obtain ⟨v2, t, rfl, c2, o⟩ := okr_cons.1 o
  obtain ⟨v3, t, rfl, c3, o⟩ := okr_cons.1 o
  obtain ⟨v4, t, rfl, c4, o⟩ := okr_cons.1 o
  obtain ⟨v5, t, rfl, c5, o⟩ := okr_cons.1 o
  obtain rfl := okr_nil.1 o
  obtain ⟨n1, rfl⟩ := okc_int c1
  obtain ⟨n2, rfl⟩ := okc_int c2
  obtain ⟨n3, rfl⟩ := okc_int c3
  obtain ⟨n4, rfl⟩ := okc_int c4
  obtain ⟨n5, rfl⟩ := okc_int c5
  exact ⟨⟨n1, n2, n3, n4, n5⟩, rfl⟩
abbrev galaKs : List Kd := [.sl [.int .i64, .int .i64, .int .i64, .int .i64, .bool], .int .i64, .sl [.int .i64, .int .i64, .int .i64, .bool], .sl [.int .i64], .sl [.int .i64], .sl [.int .i64, .int .i64, .int .i64, .int .i64, .int .i64], .int .i64,
  .sl [.int .i64, .int .i64, .int .i64, .int .i64], .sl [.int .i64, .int .i64, .int .i64, .int .i64], .int .i64, .int .i64, .int .i64, .sl [.int .i64], .sl [.int .i64]]
theorem gala_open {h : H} {av : List Value} (o : OkR h galaKs av) : ∃ g vr v1 v2 v3 ve vb vl vm vy, av = gcs g vr v1 v2 v3 ve vb vl vm vy ∧ GalaT h g vr v1 v2 v3 ve vb vl vm vy := by
  obtain ⟨vr, t, rfl, c1, o⟩ := okr_cons.1 o
  obtain ⟨vw, t, rfl, c2, o⟩ := okr_cons.1 o
  obtain ⟨v1, t, rfl, c3, o⟩ := okr_cons.1 o
  obtain ⟨v2, t, rfl, c4, o⟩ := okr_cons.1 o
  obtain ⟨v3, t, rfl, c5, o⟩ := okr_cons.1 o
  obtain ⟨ve, t, rfl, c6, o⟩ := okr_cons.1 o
  obtain ⟨vd, t, rfl, c7, o⟩ := okr_cons.1 o
  obtain ⟨vb, t, rfl, c8, o⟩ := okr_cons.1 o
  obtain ⟨vl, t, rfl, c9, o⟩ := okr_cons.1 o
  obtain ⟨vp, t, rfl, c10, o⟩ := okr_cons.1 o
  obtain ⟨vh, t, rfl, c11, o⟩ := okr_cons.1 o
  obtain ⟨vv, t, rfl, c12, o⟩ := okr_cons.1 o
  obtain ⟨vm, t, rfl, c13, o⟩ := okr_cons.1 o
  obtain ⟨vy, t, rfl, c14, o⟩ := okr_cons.1 o
  obtain rfl := okr_nil.1 o
  obtain ⟨rides, q0⟩ := okc_sl (enc := Booth.enc) c1 row_booth
  obtain ⟨walk, rfl⟩ := okc_int c2
  obtain ⟨rules, q1⟩ := okc_sl (enc := Rule.enc) c3 row_rule
  obtain ⟨ranks, q2⟩ := okc_sl (enc := fun x : Int => [I x]) c4 row_int
  obtain ⟨ins, q3⟩ := okc_sl (enc := fun x : Int => [I x]) c5 row_int
  obtain ⟨es, q4⟩ := okc_sl (enc := Entry.enc) c6 row_entry
  obtain ⟨day, rfl⟩ := okc_int c7
  obtain ⟨boards, q5⟩ := okc_sl (enc := Board.enc) c8 fun r o => by obtain ⟨a, b, c, d, rfl⟩ := row_int4 r o; exact ⟨⟨a, b, c, d⟩, rfl⟩
  obtain ⟨loads, q6⟩ := okc_sl (enc := Load.enc) c9 fun r o => by obtain ⟨a, b, c, d, rfl⟩ := row_int4 r o; exact ⟨⟨a, b, c, d⟩, rfl⟩
  obtain ⟨power, rfl⟩ := okc_int c10
  obtain ⟨hold, rfl⟩ := okc_int c11
  obtain ⟨volts, rfl⟩ := okc_int c12
  obtain ⟨lims, q7⟩ := okc_sl (enc := fun x : Int => [I x]) c13 row_int
  obtain ⟨emp, q8⟩ := okc_sl (enc := fun x : Int => [I x]) c14 row_int
  exact ⟨⟨⟨rides, walk⟩, ⟨rules, ranks, ins⟩, es, day, ⟨boards, loads, power, hold, volts⟩, lims, emp⟩, vr, v1, v2, v3, ve, vb, vl, vm, vy, rfl, ⟨q0, q1, q2, q3, q4, q5, q6, q7, q8⟩⟩
theorem opens_exec (w : World) (svs : List SV) (h : ArgsOK (HW w) [(true, galaKs)] svs) :
    ∃ h', execF Proofs.Tryz.prog (CY 5000 20) hints 5000 3 svs (HW w) = some (.one (.bool true), h') := by
  unfold ArgsOK ArgsOK at h
  obtain ⟨v, t, rfl, ⟨a, rfl, h1⟩, rfl⟩ := h
  obtain ⟨g, vr, v1, v2, v3, ve, vb, vl, vm, vy, rfl, r⟩ := gala_open h1
  exact opens_law (CY_calls 5000 (Nat.le_refl _)) (e := 20) (by omega) (CY_works 5000 19) r
end Go.Wz
