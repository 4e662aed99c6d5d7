/- The document's area, walked: Read, Image. -/
import Derived.Test.YtbfnmfakagdpfaaRefCut
namespace Go.Proofs.Ytbfnmfakagdpfaa
set_option linter.unusedVariables false
set_option linter.unusedSimpArgs false
open Go.RowKit
theorem bytes_opt {w : World} {A : Option Addr} {n c : Nat} {bs : List UInt8} (h : Bytes w A n bs) (k : Nat) (hk : k ≤ n) (hc : n ≤ c) : Bytes w (if c = k then A else Option.map (fun x => x.add k) A) (n - k) (bs.drop k) := by
  by_cases h0 : n - k = 0
  · refine ⟨by rw [List.length_drop, h.1], by have := h.2.1; omega, .inl h0⟩
  · rw [if_neg (by omega)]
    rcases h.2.2 with e | ⟨b, o, rfl, _⟩
    · omega
    · have := h.drop k hk
      simpa [add_plain] using this
theorem safes_opt {w : World} {A : Option Addr} {n c s : Nat} (h : Safes w A n s) (k : Nat) (hk : k ≤ n) (hc : n ≤ c) : Safes w (if c = k then A else Option.map (fun x => x.add k) A) (n - k) (s - k) := by
  by_cases h0 : n - k = 0
  · exact ⟨by have := h.1; omega, .inl h0⟩
  · rw [if_neg (by omega)]
    rcases h.2 with e | ⟨b, o, rfl, _⟩
    · omega
    · have := h.drop k hk
      simpa [add_plain] using this
theorem blkO_opt {A : Option Addr} {c k q : Nat} (h : blkO (if c = k then A else Option.map (fun x => x.add k) A) = some q) : blkO A = some q := by
  split at h
  · exact h
  · rcases A with _ | ⟨b, o, sp⟩
    · exact h
    · by_cases hk : k = 0 <;> simpa [blkO, Addr.add, hk] using h
/-- What the document's Read answers. -/
def RefRead (n : Nat) (bs : List UInt8) (w : World) (e : Ending) (w' : World) : Prop :=
  ∃ A' c', e = .returned (.tuple #[.slice A' n c', .int .i64 0]) ∧ Bytes w' A' n bs ∧ Below w.heap.size w w'
set_option maxHeartbeats 1600000 in
theorem refRead_any (base : Int) (A : Option Addr) (n c : Nat) (S : Option Addr) (mc s : Nat) (bs : List UInt8) (w : World) (k m : Nat) (hk : k + m ≤ n) (hc : n ≤ c) (hA : Bytes w A n bs) (hS : Safes w S n s) (hs : s ≤ n) (hn : n ≤ 214748364800000) (h0 : 0 ≤ base) (h1 : base + n ≤ 4612811918334230528) :
    Calls Try.prog 32 #[.agg #[.int .i64 base, .slice A n c, .slice S n mc], .int .i64 (base + k), .int .i64 m] w (RefRead m ((bs.drop k).take m) w) := by
  have hB2 := below_alloc w (.cells #[.int .i64 base, .slice A n c, .slice S n mc] 46)
  have hD2 := Blk.fresh w #[.int .i64 base, .slice A n c, .slice S n mc] 46
  have t0 : decide ((m : Int) < 0) = false := decide_eq_false (by omega)
  have t1 : decide (base + (k : Int) < base) = false := decide_eq_false (by omega)
  have hkk : base + (k : Int) - base = (k : Int) := by omega
  go_enter Try.func32, Try.ntmps32
  go_wp2_with fail
  generalize w.alloc (.cells #[.int .i64 base, .slice A n c, .slice S n mc] 46) = w2 at *
  obtain ⟨G, hG⟩ : ∃ G, w.heap.size = G := ⟨_, rfl⟩
  rw [hG] at hD2 ⊢
  have HG := Lib.hid hG
  clear hG
  have HLb := Lib.hid hA.1
  have d0 : w2.cell? ⟨G, 0, none⟩ = some (.int .i64 base) := hD2.cell 0
  have d1 : w2.cell? ⟨G, 1, none⟩ = some (.slice A n c) := hD2.cell 1
  have d2 : w2.cell? ⟨G, 2, none⟩ = some (.slice S n mc) := hD2.cell 2
  refine (refEnd_any base A n c (.slice S n mc) w2 h0 (by omega)).mono ?_
  rintro e w3 ⟨rfl, hb3⟩
  clear d0 d1 d2
  have d0 : w3.cell? ⟨G, 0, none⟩ = some (.int .i64 base) := (hD2.keep hb3).cell 0
  have d1 : w3.cell? ⟨G, 1, none⟩ = some (.slice A n c) := (hD2.keep hb3).cell 1
  have d2 : w3.cell? ⟨G, 2, none⟩ = some (.slice S n mc) := (hD2.keep hb3).cell 2
  have t2 : decide (base + (n : Int) < base + (k : Int)) = false := decide_eq_false (by omega)
  go_wp2_with fail
  refine (refEnd_any base A n c (.slice S n mc) w3 h0 (by omega)).mono ?_
  rintro e w4 ⟨rfl, hb4'⟩
  have hb4 := below_then hb3 hb4' hb3.size
  clear d0 d1 d2
  have d0 : w4.cell? ⟨G, 0, none⟩ = some (.int .i64 base) := (hD2.keep hb4).cell 0
  have d1 : w4.cell? ⟨G, 1, none⟩ = some (.slice A n c) := (hD2.keep hb4).cell 1
  have d2 : w4.cell? ⟨G, 2, none⟩ = some (.slice S n mc) := (hD2.keep hb4).cell 2
  have t3 : decide (base + (n : Int) - (base + (k : Int)) < (m : Int)) = false := decide_eq_false (by omega)
  have hB4 := below_then hB2 hb4 hB2.size
  have hA4 := hA.below hB4
  have hkc : k + m ≤ c := by omega
  have hn3 : m ≤ 214748364800000 := by omega
  have H0 := World.ownsRow_nil w4 w4.heap.size 5 1
  have hy : Bytes w4 (if c = k then A else Option.map (fun x => x.add k) A) (k + m - k) ((bs.drop k).take m) := by
    rw [Nat.add_sub_cancel_left]
    exact (bytes_opt hA4 k (by omega) hc).take m (by omega)
  have hr := hy.rdc
  have hB0 : Below w.heap.size w w4 := hB4
  go_wp2_with (at_builtin; (refine wpl_append _ rfl _ _ 23 rfl w4.heap.size 5 _ 1 1 Try.underlying23 info_byte7 rfl (by decide) (.slice none 0 0) 0 [] rfl H0 _ (k + m - k) _ _ rfl hr (bvals_one _) (by decide) (by decide) (by omega) (Nat.le_refl _) ?_); intro A6 c6 w6 ho6 hg6 hne6 hnn6; simp only [Nat.zero_add, List.nil_append, Nat.add_sub_cancel_left] at ho6 ⊢)
  all_goals
    go_ret2
    exact ⟨A6, c6, rfl, own_bytes' ho6 (by omega), hB0.grown hg6 hB0.size (fun k e => by cases e)⟩
set_option maxHeartbeats 1600000 in
theorem refRead_no (base : Int) (A : Option Addr) (n c : Nat) (S : Option Addr) (mc s : Nat) (bs : List UInt8) (w : World) (x y : Int) (hy1 : -9223372036854775808 ≤ y) (hy2 : y ≤ 9223372036854775807) (hx : y < 0 ∨ x < base ∨ base + n < x ∨ base + n - x < y) (hA : Bytes w A n bs) (hS : Safes w S n s) (hs : s ≤ n) (hn : n ≤ 214748364800000) (h0 : 0 ≤ base) (h1 : base + n ≤ 4612811918334230528) :
    Calls Try.prog 32 #[.agg #[.int .i64 base, .slice A n c, .slice S n mc], .int .i64 x, .int .i64 y] w (fun e w' => e = .returned (.tuple #[.slice none 0 0, .int .i64 70]) ∧ Below w.heap.size w w') := by
  have hB2 := below_alloc w (.cells #[.int .i64 base, .slice A n c, .slice S n mc] 46)
  have hD2 := Blk.fresh w #[.int .i64 base, .slice A n c, .slice S n mc] 46
  by_cases t0 : y < 0
  · go_enter Try.func32, Try.ntmps32
    go_wp2_with fail
    go_ret2
    exact ⟨rfl, hB2⟩
  · have t0' : decide (y < 0) = false := decide_eq_false t0
    by_cases t1 : x < base
    · go_enter Try.func32, Try.ntmps32
      go_wp2_with fail
      go_ret2
      exact ⟨rfl, hB2⟩
    · have t1' : decide (x < base) = false := decide_eq_false t1
      go_enter Try.func32, Try.ntmps32
      go_wp2_with fail
      generalize w.alloc (.cells #[.int .i64 base, .slice A n c, .slice S n mc] 46) = w2 at *
      obtain ⟨G, hG⟩ : ∃ G, w.heap.size = G := ⟨_, rfl⟩
      rw [hG] at hD2 ⊢
      have HG := Lib.hid hG
      clear hG
      have HLb := Lib.hid hA.1
      have d0 : w2.cell? ⟨G, 0, none⟩ = some (.int .i64 base) := hD2.cell 0
      have d1 : w2.cell? ⟨G, 1, none⟩ = some (.slice A n c) := hD2.cell 1
      have d2 : w2.cell? ⟨G, 2, none⟩ = some (.slice S n mc) := hD2.cell 2
      refine (refEnd_any base A n c (.slice S n mc) w2 h0 (by omega)).mono ?_
      rintro e w3 ⟨rfl, hb3⟩
      clear d0 d1 d2
      have d0 : w3.cell? ⟨G, 0, none⟩ = some (.int .i64 base) := (hD2.keep hb3).cell 0
      have d1 : w3.cell? ⟨G, 1, none⟩ = some (.slice A n c) := (hD2.keep hb3).cell 1
      have d2 : w3.cell? ⟨G, 2, none⟩ = some (.slice S n mc) := (hD2.keep hb3).cell 2
      have hB3 := below_then hB2 hb3 hB2.size
      by_cases t2 : base + (n : Int) < x
      · go_wp2_with fail
        go_ret2
        exact ⟨rfl, hB3⟩
      · have t2' : decide (base + (n : Int) < x) = false := decide_eq_false t2
        go_wp2_with fail
        refine (refEnd_any base A n c (.slice S n mc) w3 h0 (by omega)).mono ?_
        rintro e w4 ⟨rfl, hb4⟩
        have hB4 := below_then hB3 hb4 hB3.size
        have t3 : base + (n : Int) - x < y := by omega
        go_wp2_with fail
        go_ret2
        exact ⟨rfl, hB4⟩
/-- What the document's Image answers. -/
def RefBytes (n : Nat) (bs : List UInt8) (w : World) (e : Ending) (w' : World) : Prop :=
  ∃ A' c', e = .returned (.slice A' n c') ∧ Bytes w' A' n bs ∧ Below w.heap.size w w'
theorem hd4b {a b c : Prop} {w0 w w' : World} (hb : Below w.heap.size w w') (h : a ∧ b ∧ c ∧ Below w0.heap.size w0 w) : Below w0.heap.size w0 w' := below_then h.2.2.2 hb h.2.2.2.size
set_option maxHeartbeats 1600000 in
theorem refImage_any (base : Int) (A : Option Addr) (n c : Nat) (S : Option Addr) (mc s : Nat) (bs : List UInt8) (w : World) (hc : n ≤ c) (hA : Bytes w A n bs) (hS : Safes w S n s) (hs : s ≤ n) (hn : n ≤ 214748364800000) (h0 : 0 ≤ base) (h1 : base + n ≤ 4612811918334230528) :
    Calls Try.prog 36 #[.agg #[.int .i64 base, .slice A n c, .slice S n mc]] w (RefBytes s (bs.take s) w) := by
  have hB2 := below_alloc w (.cells #[.int .i64 base, .slice A n c, .slice S n mc] 46)
  have hD2 := Blk.fresh w #[.int .i64 base, .slice A n c, .slice S n mc] 46
  have hw : IntKind.i64.wrap (base + (s : Int) - base) = (s : Int) := by rw [show base + (s : Int) - base = s by omega]; exact IntWalk.i64_in _ (by omega)
  have hsc : s ≤ c := by omega
  have hsc2 : (s : Int) ≤ (c : Int) := by omega
  have hn3 : (0 + s) * 1 ≤ 214748364800000 := by omega
  have hbn : base + (n : Int) ≤ 9223372036854775807 := by omega
  go_enter Try.func36, Try.ntmps36
  go_wp2_with fail
  generalize w.alloc (.cells #[.int .i64 base, .slice A n c, .slice S n mc] 46) = w2 at *
  obtain ⟨G, hG⟩ : ∃ G, w.heap.size = G := ⟨_, rfl⟩
  rw [hG] at hD2 ⊢
  have HG := Lib.hid hG
  clear hG
  have HLb := Lib.hid hA.1
  have d0 : w2.cell? ⟨G, 0, none⟩ = some (.int .i64 base) := hD2.cell 0
  have d1 : w2.cell? ⟨G, 1, none⟩ = some (.slice A n c) := hD2.cell 1
  have d2 : w2.cell? ⟨G, 2, none⟩ = some (.slice S n mc) := hD2.cell 2
  have hS2 := hS.below hB2
  have hA2 := hA.below hB2
  have kk := keepDoc hD2 (Below.refl _ w2).drew
  clear d0 d1 d2
  go_region_held3 (fun w' => w'.cell? ⟨G, 0, none⟩ = some (.int .i64 base) ∧ w'.cell? ⟨G, 1, none⟩ = some (.slice A n c) ∧ w'.cell? ⟨G, 2, none⟩ = some (.slice S n mc) ∧ Below w2.heap.size w2 w')
    (first | exact kk | exact kS | exact kT)
    (first | (go_at_call 33; refine (refSafeEnd_any base _ S n mc s _ (hS2.below (hd4 (by assumption))) h0 hbn hs).mono ?_; rintro e w3 ⟨rfl, hb3'⟩; have hb3 := hd4b hb3' (by assumption); have kS := keepDoc hD2 hb3) | (refine step_append_any _ (by rfl) _ _ 23 (by rfl) w2.heap.size 5 _ 1 1 Try.underlying23 info_byte7 rfl (by decide) (.slice none 0 0) 0 [] (by rfl) (World.ownsRow_nil _ _ _ _) A s c (bvals (bs.take s)) (by rfl) ((hA2.below (hd4 (by assumption))).take s hs).rdc (bvals_one _) (by decide) (by decide) hn3 (hd4s (by assumption)) ?_; intro A6 c6 w6 ho6 hg6 hne6 hnn6; simp only [Nat.zero_add, List.nil_append] at ho6; have hb6 : Below w2.heap.size w2 w6 := hd4g hg6 (by assumption) (fun k e => by cases e); have kT := keepDoc hD2 hb6))
  all_goals
    have hB6 := below_then hB2 hb6 hB2.size
    clear hw kk kS kT
    go_wp2
    go_ret
    exact ⟨A6, c6, by first | rfl | simp, own_bytes' ho6 (by omega), hB6⟩
end Go.Proofs.Ytbfnmfakagdpfaa
