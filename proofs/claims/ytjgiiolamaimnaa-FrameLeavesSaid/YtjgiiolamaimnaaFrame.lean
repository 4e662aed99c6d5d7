/- Package frame, walked: Make, Read. -/
import Derived.Test.YtjgiiolamaimnaaPureF
import Derived.Test.YtjgiiolamaimnaaSum
namespace Go.Proofs.Ytjgiiolamaimnaa
open Go.RowKit
set_option linter.unusedVariables false
set_option linter.unusedSimpArgs false
theorem blk_bytes {w : World} {g : Nat} {bs : List UInt8} {t : TypeId} (h : Blk w g (bvals bs).toArray t) (hn : bs.length ≤ 281474976710656) : Bytes w (some ⟨g, 0, none⟩) bs.length bs :=
  ⟨rfl, hn, .inr ⟨g, 0, rfl, fun j hj => by rw [Nat.zero_add, h.cell j, List.getElem?_toArray, bvals_at _ _ hj]⟩⟩
/-- Bytes in new memory, and what else is answered. -/
def NewB (f : Value → Value) (n : Nat) (bs : List UInt8) (w : World) (e : Ending) (w' : World) : Prop :=
  ∃ A c, e = .returned (f (.slice A n c)) ∧ w'.ownsRow w.heap.size 5 1 (.slice A n c) n (bvals bs) ∧ Below w.heap.size w w'
set_option maxHeartbeats 800000 in
theorem fmake_any (A : Option Addr) (n c : Nat) (p : List UInt8) (w : World) (hb : Bytes w A n p) (hn : n ≤ 65536) :
    Calls Try.prog 17 #[.slice A n c] w (NewB (fun v => .tuple #[v, .int .i64 0]) (n + 9) (frameB p) w) := by
  have HL := Lib.hid hb.1
  have hba := below_alloc w (.cells #[.int .u8 197] 5)
  have hB1 : Bytes (w.alloc (.cells #[.int .u8 197] 5)) (some ⟨w.heap.size, 0, none⟩) 1 [197] := blk_bytes (bs := [197]) (Blk.fresh w #[.int .u8 197] 5) (by simp)
  go_enter Try.func17, Try.ntmps17
  go_wp2_with fail
  refine (put_any _ 1 1 [197] n _ hB1 (by omega) (by omega) (by omega)).mono ?_
  rintro e w1 ⟨A1, c1, rfl, ho1, hb1⟩
  have hz : (w.alloc (.cells #[.int .u8 197] 5)).heap.size = w.heap.size + 1 := by simp
  have ho2 := own_mono ho1 (Nat.le_trans (Nat.le_succ _) (Nat.le_of_eq hz.symm)) (B' := w.heap.size)
  have hb2 := below_then hba hb1 hba.size
  have hbp := hb.below hb2
  have hs1 := hb2.size
  have HZ := Lib.hid hz
  clear ho1 hb1 hB1 hz
  go_wp2_with (at_builtin; (refine wpl_append _ rfl _ _ 22 rfl w.heap.size 5 _ 1 1 Try.underlying22 info_byte rfl (by decide) (.slice A1 (1 + 4) c1) (1 + 4) _ rfl ho2 A n c (bvals p) rfl hbp.rdc (bvals_one p) (by decide) (by decide) (by omega) hs1 ?_); intro A3 c3 w3 ho3 hg3 hne3 hnn3; clear hnn3 hne3)
  have hb3 := hb2.grown hg3 hs1 (own_base ho2)
  have e3 : (1 : Nat) + 4 + n = n + 5 := by omega
  rw [e3] at ho3 ⊢
  have hh : [197] ++ four (n : Int) ++ p = headB p := by rw [headB, HL.out]; rfl
  rw [← bvals_append, hh] at ho3
  have hB3 := own_bytes' ho3 (by omega)
  clear ho2 e3 hh
  go_wp2_with fail
  refine (of_any _ _ _ _ _ hB3).mono ?_
  rintro e w4 ⟨x, rfl, ux, hb4⟩
  have hx : x = sumI (headB p) := ux
  have x0 := ux.lo
  have x1 := ux.hi
  have hb5 := below_then hb3 hb4 hb3.size
  have HX := Lib.hid hx
  clear hx
  go_wp2_with fail
  refine (put_any _ _ _ _ x _ (hB3.below hb4) (by omega) x0 x1).mono ?_
  rintro e w5 ⟨A5, c5, rfl, ho5, hb6⟩
  rw [HX.out] at ho5
  go_wp2_with fail
  go_ret2
  refine ⟨A5, c5, rfl, own_mono ho5 hb5.size, below_then hb5 hb6 hb5.size⟩
theorem fmake_no (A : Option Addr) (n c : Nat) (w : World) (hn : 65536 < n) :
    Calls Try.prog 17 #[.slice A n c] w fun e w' => e = .returned (.tuple #[.slice none 0 0, .int .i64 3]) ∧ w = w' := by
  go_enter Try.func17, Try.ntmps17
  go_wp2
  go_ret2
  exact ⟨rfl, rfl⟩
/-- What Read answers. -/
def ReadR (r : List UInt8 × Int × Int) (w : World) (e : Ending) (w' : World) : Prop :=
  ∃ A c, e = .returned (.tuple #[.slice A r.1.length c, .int .i64 r.2.1, .int .i64 r.2.2]) ∧ w'.ownsRow w.heap.size 5 1 (.slice A r.1.length c) r.1.length (bvals r.1) ∧ Below w.heap.size w w'
theorem readR_no {r : List UInt8 × Int × Int} {x : Int} {w w' : World} (h : r = ([], 0, x)) (hb : Below w.heap.size w w') : ReadR r w (.returned (.tuple #[.slice none 0 0, .int .i64 0, .int .i64 x])) w' := by
  subst h
  exact ⟨none, 0, rfl, World.ownsRow_nil _ _ _ _, hb⟩
theorem readR_yes {r : List UInt8 × Int × Int} {p : List UInt8} {x y : Int} {m : Nat} {A : Option Addr} {c : Nat} {w w' : World} (h : r = (p, x, 0)) (hl : p.length = m) (hx : x = y) (ho : w'.ownsRow w.heap.size 5 1 (.slice A m c) m (bvals p)) (hb : Below w.heap.size w w') : ReadR r w (.returned (.tuple #[.slice A m c, .int .i64 y, .int .i64 0])) w' := by
  subst h; subst hl; subst hx
  exact ⟨A, c, rfl, ho, hb⟩
theorem bytes_some {w : World} {A : Option Addr} {n : Nat} {bs : List UInt8} (h : Bytes w A n bs) (h0 : n ≠ 0) : ∃ b o, A = some ⟨b, o, none⟩ ∧ ∀ j, j < n → w.cell? ⟨b, o + j, none⟩ = some (.int .u8 (((bs.getD j 0).toNat : Nat) : Int)) := h.2.2.resolve_left h0
set_option maxHeartbeats 3200000 in
theorem fread_any (A : Option Addr) (n c : Nat) (bs : List UInt8) (w : World) (hb : Bytes w A n bs) (hc : n ≤ c) (hn : n ≤ 214748364800000) :
    Calls Try.prog 21 #[.slice A n c] w (ReadR (rd bs) w) := by
  by_cases h0 : n = 0
  · subst h0
    have h1 := rd_0 hb.1
    have H1 := Lib.hid h1
    clear h1
    go_enter Try.func21, Try.ntmps21
    go_wp2
    go_ret3
    exact readR_no H1.out (Below.refl _ _)
  obtain ⟨b, o, rfl, hcell⟩ := bytes_some hb h0
  have hl : bs.length ≠ 0 := by rw [hb.1]; exact h0
  have c0 := hcell 0 (by omega)
  obtain ⟨m, hm⟩ : ∃ m : Int, (((bs.getD 0 0).toNat : Nat) : Int) = m := ⟨_, rfl⟩
  rw [hm, Nat.add_zero] at c0
  have HC := Lib.hid hcell
  clear hcell
  have z0 : ((n : Int) == 0) = false := by rw [beq_eq_false_iff_ne]; omega
  by_cases h1 : m = 197
  · subst h1
    have g0 : bs.getD 0 0 = 197 := by
      apply UInt8.toNat_inj.1
      have : (197 : UInt8).toNat = 197 := rfl
      omega
    have G0 := Lib.hid g0
    have HL := Lib.hid hb.1
    clear g0 hm
    by_cases h5 : n < 5
    · have H3 := Lib.hid (rd_2 hl G0.out (by rw [HL.out]; exact h5))
      clear hl
      go_enter Try.func21, Try.ntmps21
      go_wp2
      go_ret3
      exact readR_no H3.out (Below.refl _ _)
    have hd1 := hb.drop 1 (by omega)
    have y0 := num_nonneg (bs.drop 1) 4
    obtain ⟨L, hL⟩ : ∃ L : Nat, num (bs.drop 1) 4 = L := ⟨(num (bs.drop 1) 4).toNat, by omega⟩
    have i0 : (1 : Int) ≤ (n : Int) := by omega
    have i1 : (1 : Int) ≤ (c : Int) := by omega
    have i2 : ¬ c = 1 := by omega
    have HLL := Lib.hid hL
    clear hL y0 hl
    have hnum := (number_any _ (n - 1) (c - 1) _ w hd1 (by omega) (by omega) (by omega)).mono (fun e w' h => h)
    rw [HLL.out] at hnum
    have HN := Lib.hid hnum
    clear hnum
    go_enter Try.func21, Try.ntmps21
    go_wp2_with fail
    refine HN.out.mono ?_
    rintro e w1 ⟨rfl, hb1⟩
    by_cases h3 : 65536 < L
    · have H3 := Lib.hid (rd_3 (b := bs) G0.out (by rw [HL.out]; exact h5) (by rw [HLL.out]; omega))
      go_wp2_with fail
      go_ret3
      exact readR_no H3.out hb1
    by_cases h4 : n < L + 9
    · have H3 := Lib.hid (rd_4 (b := bs) G0.out (by rw [HL.out]; exact h5) HLL.out (by omega) (by rw [HL.out]; exact h4))
      go_wp2_with fail
      go_ret3
      exact readR_no H3.out hb1
    have hbw := hb.below hb1
    have hd2 := hbw.drop (5 + L) (by omega)
    have ht2 := hbw.take (5 + L) (by omega)
    obtain ⟨q, hq⟩ : ∃ q, num (bs.drop (5 + L)) 4 = q := ⟨_, rfl⟩
    obtain ⟨s, hs⟩ : ∃ s, sumI (bs.take (5 + L)) = s := ⟨_, rfl⟩
    have HQ := Lib.hid hq
    have HS := Lib.hid hs
    have e1 : (5 : Int) + (L : Int) = ((5 + L : Nat) : Int) := by omega
    have j0 : (0 : Int) ≤ (5 : Int) + (L : Int) := by omega
    have j1 : (5 : Int) + (L : Int) ≤ (n : Int) := by omega
    have j2 : (5 : Int) + (L : Int) ≤ (c : Int) := by omega
    have j3 : ¬ c = 5 + L := by omega
    have E1 := Lib.hid e1
    have s0 : 0 ≤ s := by rw [← hs]; exact sumI_lo _
    have s1 : s ≤ 4294967295 := by rw [← hs]; exact sumI_hi _
    clear hq hs e1
    by_cases hqs : q = s
    · have H3 := Lib.hid (rd_6 (b := bs) G0.out HLL.out (by omega) (by rw [HL.out]; omega) (by rw [HQ.out, HS.out]; exact hqs))
      have z1 : (q != s) = false := by rw [bne_eq_false_iff_eq]; exact hqs
      have hd5 : Bytes w1 (some ⟨b, o + 5, none⟩) (5 + L - 5) ((bs.drop 5).take L) := by rw [show 5 + L - 5 = L by omega]; exact (hbw.drop 5 (by omega)).take L (by omega)
      have H0 := World.ownsRow_nil w1 w.heap.size 5 1
      have hs1 := hb1.size
      clear hqs
      go_wp2_with fail
      have tn : ((5 : Int) + (L : Int)).toNat = 5 + L := by omega
      have ws : IntKind.i64.wrap s = s := IntWalk.i64_in _ (by omega)
      have k1 : 4 ≤ n - (5 + L) := by omega
      have k2 : n - (5 + L) ≤ c - (5 + L) := by omega
      have k3 : n - (5 + L) ≤ 214748364800000 := by omega
      go_region_held3 (fun w' => Below w1.heap.size w1 w')
        (first | exact kS | exact Below.refl _ _ | exact (Below.refl _ _).drew)
        (first | (go_at_call 36; refine (number_any _ (n - (5 + L)) (c - (5 + L)) (bs.drop (5 + L)) _ (hd2.below (by assumption)) k1 k2 k3).mono ?_; rintro e w3 ⟨rfl, hb3⟩; rw [HQ.out]; have kS := below_then (by assumption) hb3 (Below.size (by assumption))) | (go_at_call 34; refine (of_any _ (5 + L) c (bs.take (5 + L)) _ (ht2.below (by assumption))).mono ?_; rintro e w4 ⟨x, rfl, ux, hb4⟩; obtain rfl : x = s := (by rw [← HS.out]; exact ux); have kS := below_then (by assumption) hb4 (Below.size (by assumption))))
      all_goals clear tn ws
      all_goals go_wp2_with (at_builtin; (refine wpl_append _ rfl _ _ 22 rfl w.heap.size 5 _ 1 1 Try.underlying22 info_byte rfl (by decide) (.slice none 0 0) 0 [] rfl (World.ownsRow_nil _ _ _ _) (some ⟨b, o + 5, none⟩) (5 + L - 5) (c - 5) (bvals ((bs.drop 5).take L)) rfl (hd5.below (by assumption)).rdc (bvals_one _) (by decide) (by decide) (by omega) (Nat.le_trans hs1 (Below.size (by assumption))) ?_); intro A6 c6 w6 ho6 hg6 hne6 hnn6; simp only [Nat.zero_add, List.nil_append] at ho6 ⊢; clear hnn6 hne6)
      all_goals go_ret3
      all_goals exact readR_yes H3.out (hd5.1.trans (by omega)) (by omega) (by rw [show 5 + L - 5 = L by omega] at ho6; exact ho6) (((hb1.trans ((Below.mono (by assumption) hs1))).grown hg6 (Nat.le_trans hs1 (Below.size (by assumption))) (fun k h => by simp [Value.ownBlock] at h)))
    · have H3 := Lib.hid (rd_5 (b := bs) G0.out HLL.out (by omega) (by rw [HL.out]; omega) (by rw [HQ.out, HS.out]; exact hqs))
      have z1 : (q != s) = true := by rw [bne_iff_ne]; exact hqs
      clear hqs
      go_wp2_with fail
      have tn : ((5 : Int) + (L : Int)).toNat = 5 + L := by omega
      have ws : IntKind.i64.wrap s = s := IntWalk.i64_in _ (by omega)
      have k1 : 4 ≤ n - (5 + L) := by omega
      have k2 : n - (5 + L) ≤ c - (5 + L) := by omega
      have k3 : n - (5 + L) ≤ 214748364800000 := by omega
      go_region_held3 (fun w' => Below w1.heap.size w1 w')
        (first | exact kS | exact Below.refl _ _ | exact (Below.refl _ _).drew)
        (first | (go_at_call 36; refine (number_any _ (n - (5 + L)) (c - (5 + L)) (bs.drop (5 + L)) _ (hd2.below (by assumption)) k1 k2 k3).mono ?_; rintro e w3 ⟨rfl, hb3⟩; rw [HQ.out]; have kS := below_then (by assumption) hb3 (Below.size (by assumption))) | (go_at_call 34; refine (of_any _ (5 + L) c (bs.take (5 + L)) _ (ht2.below (by assumption))).mono ?_; rintro e w4 ⟨x, rfl, ux, hb4⟩; obtain rfl : x = s := (by rw [← HS.out]; exact ux); have kS := below_then (by assumption) hb4 (Below.size (by assumption))))
      all_goals clear tn ws
      all_goals go_wp2_with fail
      all_goals go_ret3
      all_goals exact readR_no H3.out (below_then hb1 (by assumption) hb1.size)
  · have h2 : bs.getD 0 0 ≠ 197 := fun e => h1 (by rw [← hm, e]; rfl)
    have h3 := rd_1 hl h2
    have H3 := Lib.hid h3
    have z1 : (m != 197) = true := by rw [bne_iff_ne]; exact h1
    clear hm h2 h3 h1 hl
    go_enter Try.func21, Try.ntmps21
    go_wp2
    go_ret3
    exact readR_no H3.out (Below.refl _ _)
end Go.Proofs.Ytjgiiolamaimnaa
