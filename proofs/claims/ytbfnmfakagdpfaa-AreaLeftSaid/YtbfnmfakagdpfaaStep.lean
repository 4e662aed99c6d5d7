/- The law package's step and last, for every step. -/
import Derived.Test.YtbfnmfakagdpfaaStep0
import Derived.Test.YtbfnmfakagdpfaaStep1
import Derived.Test.YtbfnmfakagdpfaaStep2
import Derived.Test.YtbfnmfakagdpfaaStep3
import Derived.Test.YtbfnmfakagdpfaaStep4
import Derived.Test.YtbfnmfakagdpfaaStep5
import Derived.Test.YtbfnmfakagdpfaaStep6
import Derived.Test.YtbfnmfakagdpfaaStep7
import Derived.Test.YtbfnmfakagdpfaaStep8
import Derived.Test.YtbfnmfakagdpfaaStep9
namespace Go.Proofs.Ytbfnmfakagdpfaa
open Go.RowKit
set_option linter.unusedVariables false
set_option linter.unusedSimpArgs false
theorem Pr.lt {w : World} {P T : Nat} {F : Nat → Prop} {base : Int} {bs : List UInt8} {s : Nat} (h : Pr w P F T base bs s) : ∀ q, F q → q < w.heap.size := by
  obtain ⟨g, A, c, DA, dc, SA, sc, h, rfl, _⟩ := h
  exact h.lt
theorem Pr.chg {w w' : World} {P T : Nat} {F G : Nat → Prop} {base : Int} {bs : List UInt8} {s : Nat} (h : Pr w P F T base bs s) (hc : Chg G w w') (hn : ∀ q, F q → ¬ G q) : Pr w' P F T base bs s := by
  obtain ⟨g, A, c, DA, dc, SA, sc, h, rfl, h1⟩ := h
  exact ⟨g, A, c, DA, dc, SA, sc, h.chg hc hn, rfl, h1⟩
/-- What a step makes of an area: its base, its bytes, how many are safe. -/
def stepF (k a b : Int) (d : List UInt8) (base : Int) (bs : List UInt8) (s : Nat) : Int × List UInt8 × Nat :=
  if k = 1 then (base, bs ++ d, s)
  else if k = 2 then (base, bs, bs.length)
  else if k = 3 then (if base ≤ a ∧ a ≤ base + bs.length then (base, bs.take (a - base).toNat, min s (a - base).toNat) else (base, bs, s))
  else if k = 4 then (if base ≤ a ∧ a ≤ base + s then (a, bs.drop (a - base).toNat, s - (a - base).toNat) else (base, bs, s))
  else if k = 7 then (base, crashB bs s (crashK bs.length s a) (UInt8.ofNat (IntKind.u8.wrap b).toNat), s + crashK bs.length s a)
  else if k = 9 then (if 0 ≤ a ∧ a ≤ 4611686018427387904 then (a, d, d.length) else (base, bs, s))
  else (base, bs, s)
theorem stepTo_of {w : World} {P T : Nat} {F : Nat → Prop} {r : Int × List UInt8 × Nat} {base : Int} {bs : List UInt8} {s : Nat} (h : r = (base, bs, s)) {f : Nat} {args : Array Value} (hc : Calls Try.prog f args w (StepTo w P F T base bs s)) : Calls Try.prog f args w (StepTo w P F T r.1 r.2.1 r.2.2) := by
  subst h; exact hc
theorem step_pr {w : World} {P T : Nat} {F : Nat → Prop} {base : Int} {bs : List UInt8} {s : Nat} (h : Pr w P F T base bs s)
    (k a b : Int) (ha1 : -9223372036854775808 ≤ a) (ha2 : a ≤ 9223372036854775807) (hb1 : -9223372036854775808 ≤ b) (hb2 : b ≤ 9223372036854775807) (D : Option Addr) (m mc : Nat) (d : List UInt8) (hd : Bytes w D m d) (hdn : m ≠ 0 → ∀ q, blkO D = some q → ¬ F q) (hT : T + m ≤ 140737488355328) :
    Calls Try.prog 21 #[.pointer (some ⟨P, 0, none⟩), .agg #[.int .i64 k, .int .i64 a, .int .i64 b, .slice D m mc]] w (StepTo w P F (T + m) (stepF k a b d base bs s).1 (stepF k a b d base bs s).2.1 (stepF k a b d base bs s).2.2) := by
  obtain ⟨g, A, c, DA, dc, SA, sc, h, rfl, h1, h2⟩ := h
  by_cases k1 : k = 1
  · subst k1; exact stepTo_of (by simp [stepF]) (step_append h h1 h2 a b ha1 ha2 hb1 hb2 D m mc d hd hdn hT)
  by_cases k2 : k = 2
  · subst k2; exact stepTo_of (by simp [stepF]) (step_sync h h1 h2 a b ha1 ha2 hb1 hb2 D m mc d hd hdn hT)
  by_cases k3 : k = 3
  · subst k3
    by_cases hr : base ≤ a ∧ a ≤ base + bs.length
    · exact stepTo_of (by simp [stepF, hr]) (step_cut_yes h h1 h2 a b ha1 ha2 hb1 hb2 D m mc d hd hdn hT (a - base).toNat (by omega) (by omega))
    · exact stepTo_of (by simp [stepF, hr]) (step_cut_no h h1 h2 a b ha1 ha2 hb1 hb2 D m mc d hd hdn hT (by omega))
  by_cases k4 : k = 4
  · subst k4
    by_cases hr : base ≤ a ∧ a ≤ base + s
    · exact stepTo_of (by simp [stepF, hr]) (step_trim_yes h h1 h2 a b ha1 ha2 hb1 hb2 D m mc d hd hdn hT (a - base).toNat (by omega) (by omega))
    · exact stepTo_of (by simp [stepF, hr]) (step_trim_no h h1 h2 a b ha1 ha2 hb1 hb2 D m mc d hd hdn hT (by omega))
  by_cases k5 : k = 5
  · subst k5
    by_cases hr : ∃ k n : Nat, a = base + k ∧ b = n ∧ k + n ≤ bs.length
    · obtain ⟨q, n, e1, e2, e3⟩ := hr
      exact stepTo_of (by simp [stepF]) ((step_read_yes h h1 h2 a b ha1 ha2 hb1 hb2 D m mc d hd hdn hT q n e1 e2 e3).mono fun _ _ hs => stays_to h hs (by omega) (by omega))
    · exact stepTo_of (by simp [stepF]) ((step_read_no h h1 h2 a b ha1 ha2 hb1 hb2 D m mc d hd hdn hT hr).mono fun _ _ hs => stays_to h hs (by omega) (by omega))
  by_cases k6 : k = 6
  · subst k6; exact stepTo_of (by simp [stepF]) ((step_bounds h h1 h2 a b ha1 ha2 hb1 hb2 D m mc d hd hdn hT).mono fun _ _ hs => stays_to h hs (by omega) (by omega))
  by_cases k7 : k = 7
  · subst k7; exact stepTo_of (by simp [stepF]) (step_crash h h1 h2 a b ha1 ha2 hb1 hb2 D m mc d hd hdn hT)
  by_cases k8 : k = 8
  · subst k8; exact stepTo_of (by simp [stepF]) ((step_image h h1 h2 a b ha1 ha2 hb1 hb2 D m mc d hd hdn hT).mono fun _ _ hs => stays_to h hs (by omega) (by omega))
  by_cases k9 : k = 9
  · subst k9
    by_cases hr : 0 ≤ a ∧ a ≤ 4611686018427387904
    · exact stepTo_of (by simp [stepF, hr]) (step_load_yes h h1 h2 a b ha1 ha2 hb1 hb2 D m mc d hd hdn hT hr)
    · exact stepTo_of (by simp [stepF, hr]) (step_load_no h h1 h2 a b ha1 ha2 hb1 hb2 D m mc d hd hdn hT (by omega))
  exact stepTo_of (by simp [stepF, k1, k2, k3, k4, k7, k9]) (step_other h h1 h2 a b ha1 ha2 hb1 hb2 D m mc d hd hdn hT k (by omega))
/-- A pair from block B on. -/
def Sit (B : Nat) (w : World) (P : Nat) (F : Nat → Prop) (T : Nat) : Prop := (∃ base bs s, Pr w P F T base bs s) ∧ ∀ q, F q → B ≤ q
theorem Sit.lt {B : Nat} {w : World} {P T : Nat} {F : Nat → Prop} (h : Sit B w P F T) : ∀ q, F q → q < w.heap.size := by
  obtain ⟨⟨_, _, _, h⟩, _⟩ := h
  exact h.lt
theorem Sit.chg {B : Nat} {w w' : World} {P T : Nat} {F G : Nat → Prop} (h : Sit B w P F T) (hc : Chg G w w') (hn : ∀ q, F q → ¬ G q) : Sit B w' P F T := by
  obtain ⟨⟨a, b, c, h⟩, h2⟩ := h
  exact ⟨⟨a, b, c, h.chg hc hn⟩, h2⟩
theorem Sit.below {B : Nat} {w w' : World} {P T : Nat} {F : Nat → Prop} (h : Sit B w P F T) (hb : Below w.heap.size w w') : Sit B w' P F T := h.chg (chg_below hb (fun _ => False)) (fun _ _ e => e)
theorem Sit.mono {B : Nat} {w : World} {P T T' : Nat} {F : Nat → Prop} (h : Sit B w P F T) (hT : T ≤ T') : Sit B w P F T' := by
  obtain ⟨⟨a, b, c, g, A, c', DA, dc, SA, sc, h, rfl, h1, h2⟩, h3⟩ := h
  exact ⟨⟨a, b, c, g, A, c', DA, dc, SA, sc, h, rfl, by omega, by omega⟩, h3⟩
/-- What a step of a pair from B on comes to, beside whatever else there is. -/
def SitTo (B : Nat) (w : World) (P : Nat) (F : Nat → Prop) (T : Nat) (e : Ending) (w' : World) : Prop :=
  e = .returned (.bool true) ∧ ∃ F', Sit B w' P F' T ∧ Chg F w w' ∧ (∀ q, F' q → F q ∨ w.heap.size ≤ q) ∧ Below B w w'
theorem sit_to {B : Nat} {w w' : World} {P T T' : Nat} {F : Nat → Prop} {e : Ending} (h : Sit B w P F T) (hB : B ≤ w.heap.size) {base' : Int} {bs' : List UInt8} {s' : Nat} (hs : StepTo w P F T' base' bs' s' e w') : SitTo B w P F T' e w' := by
  obtain ⟨he, F', h1, h2, h3⟩ := hs
  exact ⟨he, F', ⟨⟨base', bs', s', h1⟩, fun q e => (h3 q e).elim (h.2 q) (fun e => Nat.le_trans hB e)⟩, h2, h3, h2.below hB h.2⟩
theorem step_sit {B : Nat} {w : World} {P T : Nat} {F : Nat → Prop} (h : Sit B w P F T) (hB : B ≤ w.heap.size)
    (k a b : Int) (ha1 : -9223372036854775808 ≤ a) (ha2 : a ≤ 9223372036854775807) (hb1 : -9223372036854775808 ≤ b) (hb2 : b ≤ 9223372036854775807) (D : Option Addr) (m mc : Nat) (d : List UInt8) (hd : Bytes w D m d) (hdn : m ≠ 0 → ∀ q, blkO D = some q → q < B) (hT : T + m ≤ 140737488355328) :
    Calls Try.prog 21 #[.pointer (some ⟨P, 0, none⟩), .agg #[.int .i64 k, .int .i64 a, .int .i64 b, .slice D m mc]] w (SitTo B w P F (T + m)) := by
  obtain ⟨⟨base, bs, s, hp⟩, h2⟩ := h
  exact (step_pr hp k a b ha1 ha2 hb1 hb2 D m mc d hd (fun h0 q e e2 => by have := hdn h0 q e; have := h2 q e2; omega) hT).mono fun _ _ hs => sit_to ⟨⟨base, bs, s, hp⟩, h2⟩ hB hs
theorem SitTo.then_ {B : Nat} {w w1 w2 : World} {P T : Nat} {F F1 : Nat → Prop} {e : Ending} (hc : Chg F w w1) (hg : ∀ q, F1 q → F q ∨ w.heap.size ≤ q) (hb : Below B w w1) (h : SitTo B w1 P F1 T e w2) : SitTo B w P F T e w2 := by
  obtain ⟨he, F2, h1, h2, h3, h4⟩ := h
  exact ⟨he, F2, h1, hc.trans h2 hg, fun q e => (h3 q e).elim (fun e => hg q e) (fun e => .inr (Nat.le_trans hc.size e)), hb.trans h4⟩
theorem keepDoc' {w w' : World} {P : Nat} {a b c d : Value} {t : TypeId} (h : Blk w P #[a, b, c, d] t) (hb : Below w.heap.size w w') :
    w'.cell? ⟨P, 1, none⟩ = some b ∧ w'.cell? ⟨P, 2, none⟩ = some c ∧ True ∧ Below w.heap.size w w' := ⟨(h.keep hb).cell 1, (h.keep hb).cell 2, trivial, hb⟩
set_option maxHeartbeats 3200000 in
theorem last_any {w : World} {P g : Nat} {A DA SA : Option Addr} {c dc sc T : Nat} {base : Int} {bs : List UInt8} {s : Nat} (h : PairAt w P g A c DA dc SA sc base bs s) (h1 : bs.length ≤ T) (h2 : base + bs.length ≤ 4611686018427387904 + (T : Int)) (hT : T ≤ 140737488355328) :
    Calls Try.prog 22 #[.pointer (some ⟨P, 0, none⟩)] w (StaysTo w) := by
  have i0 : (-9223372036854775808 : Int) ≤ 0 := by decide
  have i1 : (0 : Int) ≤ 9223372036854775807 := by decide
  have hT0 : T + 0 ≤ 140737488355328 := hT
  have hnd : (0 : Nat) ≠ 0 → ∀ q, blkO none = some q → ¬ pF P g A DA SA q := fun e => absurd rfl e
  have hba := h.ar.b0
  have hbb := h.ar.b1
  have hbn := h.ar.n1
  have hi1 : (-9223372036854775808 : Int) ≤ base := by omega
  have hi2 : base ≤ 9223372036854775807 := by omega
  have hi3 : (-9223372036854775808 : Int) ≤ (bs.length : Int) := by omega
  have hi4 : (bs.length : Int) ≤ 9223372036854775807 := by omega
  have hz : base = base + ((0 : Nat) : Int) := by omega
  have HZ := Lib.hid hz
  clear hz
  have kk := keepDoc' h.pb (Below.refl _ w).drew
  go_enter Try.func22, Try.ntmps22
  go_wp2_with fail
  go_region_held3 (fun w' => w'.cell? ⟨P, 1, none⟩ = some (.int .i64 base) ∧ w'.cell? ⟨P, 2, none⟩ = some (.slice DA bs.length dc) ∧ True ∧ Below w.heap.size w w')
    (first | exact kk | exact kS | exact kT | exact kU)
    (first | (go_at_call 21; (with_reducible refine (step_bounds (h.below (hd4 (by assumption))) h1 h2 0 0 i0 i1 i0 i1 none 0 0 [] (Bytes.empty _ _) hnd hT0).mono ?_); rintro e w3 ⟨rfl, hb3'⟩; have hb3 := hd4b hb3' (by assumption); have kS := keepDoc' h.pb hb3) | (go_at_call 21; (with_reducible refine (step_image (h.below (hd4 (by assumption))) h1 h2 0 0 i0 i1 i0 i1 none 0 0 [] (Bytes.empty _ _) hnd hT0).mono ?_); rintro e w4 ⟨rfl, hb4'⟩; have hb4 := hd4b hb4' (by assumption); have kT := keepDoc' h.pb hb4) | (go_at_call 21; (with_reducible refine (step_read_yes (h.below (hd4 (by assumption))) h1 h2 base bs.length hi1 hi2 hi3 hi4 none 0 0 [] (Bytes.empty _ _) hnd hT0 0 bs.length HZ.out rfl (by omega)).mono ?_); rintro e w5 ⟨rfl, hb5'⟩; have hb5 := hd4b hb5' (by assumption); have kU := keepDoc' h.pb hb5))
  all_goals
    clear kk
    go_wp2
    go_ret
    exact ⟨rfl, hb5⟩
theorem last_sit {B : Nat} {w : World} {P T : Nat} {F : Nat → Prop} (h : Sit B w P F T) (hB : B ≤ w.heap.size) (hT : T ≤ 140737488355328) :
    Calls Try.prog 22 #[.pointer (some ⟨P, 0, none⟩)] w (SitTo B w P F T) := by
  obtain ⟨⟨base, bs, s, g, A, c, DA, dc, SA, sc, hp, rfl, h1, h2⟩, h3⟩ := h
  exact (last_any hp h1 h2 hT).mono fun _ _ hs => sit_to ⟨⟨base, bs, s, g, A, c, DA, dc, SA, sc, hp, rfl, h1, h2⟩, h3⟩ hB (stays_to hp hs h1 h2)
end Go.Proofs.Ytbfnmfakagdpfaa
