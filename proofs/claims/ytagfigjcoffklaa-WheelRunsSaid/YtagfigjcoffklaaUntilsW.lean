/- The laws WheelUntils and WheelServes, walked. -/
import Derived.Test.YtagfigjcoffklaaAwake
import Derived.Test.YtagfigjcoffklaaRefServed
namespace Go.Proofs.Ytagfigjcoffklaa
open Go.RowKit
theorem until_cases (p n q a : Int) : (¬ Good p n ∨ q < 0 ∨ p ≤ q ∨ a < 0) ∨ (Good p n ∧ 0 ≤ q ∧ q < p ∧ 1099511627776 < a) ∨ (Good p n ∧ 0 ≤ q ∧ q < p ∧ 0 ≤ a ∧ a ≤ 1099511627776) := by
  unfold Good; omega
/-- Both answer alike, whatever it is. -/
theorem untils_two (p n q a : Int) : ∃ r c : Int, (∀ w, Calls Try.prog 11 #[.int .i64 p, .int .i64 n, .int .i64 q, .int .i64 a] w fun e w' => e = .returned (.tuple #[.int .i64 r, .int .i64 c]) ∧ w = w') ∧
    (∀ w, Calls Try.prog 12 #[.int .i64 p, .int .i64 n, .int .i64 q, .int .i64 a] w fun e w' => e = .returned (.tuple #[.int .i64 r, .int .i64 c]) ∧ w = w') := by
  rcases until_cases p n q a with h | ⟨h, q0, q1, ha⟩ | ⟨h, q0, q1, a0, ha⟩
  · exact ⟨0, 2, fun w => until_bad p n q a w h, fun w => refUntil_bad p n q a w h⟩
  · exact ⟨0, 3, fun w => until_large p n q a w h q0 q1 ha, fun w => refUntil_large p n q a w h q0 q1 ha⟩
  · exact ⟨_, 0, fun w => until_ok p n q a w h q0 q1 a0 ha, fun w => refUntil_ok p n q a w h q0 q1 a0 ha⟩
theorem wheelUntils_any (p n q a : Int) (w : World) : Calls Try.prog 4 #[.int .i64 p, .int .i64 n, .int .i64 q, .int .i64 a] w fun e w' => e = .returned (.bool true) ∧ Below w.heap.size w w' := by
  obtain ⟨r, c, h1, h2⟩ := untils_two p n q a
  have H1 := Lib.hid h1
  have H2 := Lib.hid h2
  clear h1 h2
  go_enter Try.func4, Try.ntmps4
  go_wp2_with (first | (go_at_call 11; (with_reducible refine (H1.out _).mono ?_); rintro e w' ⟨rfl, rfl⟩) | (go_at_call 12; (with_reducible refine (H2.out _).mono ?_); rintro e w' ⟨rfl, rfl⟩) | (go_at_call 10; (with_reducible refine (awake_any _).mono ?_); rintro e w1 ⟨rfl, hB1⟩))
  go_ret
  exact ⟨by simp, hB1⟩
/-- What Served answers: nil and an error, or a new list. -/
def ServedRet (zs : List Int) (err : Int) (w : World) (e : Ending) (w' : World) : Prop :=
  ∃ A c, e = .returned (.tuple #[.slice A zs.length c, .int .i64 err]) ∧ w'.ownsRow w.heap.size 3 1 (.slice A zs.length c) zs.length (ivals zs) ∧ Below w.heap.size w w'
theorem served_two (p n t : Int) : ∃ (zs : List Int) (c : Int), zs.length ≤ 16 ∧ (∀ w, Calls Try.prog 13 #[.int .i64 p, .int .i64 n, .int .i64 t] w (ServedRet zs c w)) ∧
    (∀ w, Calls Try.prog 14 #[.int .i64 p, .int .i64 n, .int .i64 t] w (ServedRet zs c w)) := by
  have hc : (¬ Good p n ∨ t < 0) ∨ (Good p n ∧ 1099511627776 < t) ∨ (Good p n ∧ 0 ≤ t ∧ t ≤ 1099511627776) := by unfold Good; omega
  have new : ∀ {zs : List Int} {c : Int} {w : World} {e : Ending} {w' : World}, NewInts w zs c e w' → ServedRet zs c w e w' := fun ⟨g, c, h1, h2, h3⟩ => ⟨_, c, h1, h2, h3⟩
  have none : ∀ {c : Int} {w : World} {e : Ending} {w' : World}, (e = .returned (.tuple #[.slice none 0 0, .int .i64 c]) ∧ w = w') → ServedRet [] c w e w' := by
    rintro c w e w' ⟨rfl, rfl⟩
    exact ⟨Option.none, 0, rfl, World.ownsRow_nil _ _ _ _, Below.refl _ _⟩
  rcases hc with h | ⟨h, ht⟩ | ⟨h, t0, ht⟩
  · exact ⟨[], 2, by simp, fun w => (served_bad p n t w h).mono fun _ _ => none, fun w => (refServed_bad p n t w h).mono fun _ _ => none⟩
  · exact ⟨[], 3, by simp, fun w => (served_large p n t w h ht).mono fun _ _ => none, fun w => (refServed_large p n t w h ht).mono fun _ _ => none⟩
  · exact ⟨servedL p n t, 0, by rw [servedL_length]; unfold Good at h; omega, fun w => (served_ok p n t w h t0 ht).mono fun _ _ => new, fun w => (refServed_ok p n t w h t0 ht).mono fun _ _ => new⟩
end Go.Proofs.Ytagfigjcoffklaa
