/- DiskLoads, walked. -/
import Derived.Test.YtodaplkijdjbpaaDoesW
import Derived.Test.YtodaplkijdjbpaaRefN
import Derived.Test.YtodaplkijdjbpaaFixed
namespace Go.Proofs.Ytodaplkijdjbpaa
open Go.RowKit
set_option linter.unusedVariables false
set_option linter.unusedSimpArgs false
/-- A span's cells. -/
def IsSp (W : World) (cs : List Value) (s : Int × List UInt8) : Prop := ∃ C m c, cs = [.int .i64 s.1, .slice C m c] ∧ Bytes W C m s.2 ∧ m ≤ c ∧ c ≤ 140737488351232
def spanFields (W : World) (t : TypeId) (cs : List Value) : Prop := if t = 30 then BytesOf W cs else IntOf .i64 cs
theorem opn_span (W : World) : Opn Try.prog W 44 (fun cs => ∃ x, IsSp W cs x) := by
  refine (opn_struct_list Try.underlying44 [(3, 0, 1), (30, 1, 1)] (by kernel_rfl) (N := 2) (by kernel_rfl) (spanFields W) ?_).imp ?_
  · intro x hx
    simp only [List.mem_cons, List.not_mem_nil, or_false] at hx
    rcases hx with rfl | rfl
    · exact opn_int Try.underlying3
    · exact opn_bytes Try.underlying30 Try.underlying5 (by kernel_rfl) (by kernel_rfl)
  · rintro cs ⟨hl, hall⟩
    match cs, hl with
    | [v0, v1], _ =>
      have g0 : IntOf .i64 [v0] := hall (3, 0, 1) (by simp)
      have g1 : BytesOf W [v1] := hall (30, 1, 1) (by simp)
      obtain ⟨n0, p0, w0⟩ := g0
      obtain ⟨C, m, c, bs, p1, q1, q2, q3⟩ := g1
      simp only [List.cons.injEq, and_true] at p0 p1
      subst p0 p1
      exact ⟨(n0, bs), C, m, c, rfl, q3, q1, q2⟩
theorem sp_of_recs {W : World} {A : Option Addr} {n : Nat} {l : List (Int × List UInt8)} (h : RecS IsSp W 2 A n l) : SpAt W A n l ∧ ∀ j, j < n → (l.getD j (0, [])).2.length ≤ 140737488355328 := by
  refine ⟨⟨h.1, ?_⟩, fun j hj => ?_⟩
  · rcases h.2 with h0 | ⟨b, o, hA, hc⟩
    · exact .inl h0
    · refine .inr ⟨b, o, hA, fun j hj => ?_⟩
      obtain ⟨cs, x, h1, h2, ⟨C, m, c, h3, h4, h5, h6⟩, h7⟩ := hc j hj
      have e : l.getD j (0, []) = x := by rw [List.getD_eq_getElem?_getD, h1]; rfl
      subst h3
      rw [e]
      exact ⟨h7 0 _ rfl, C, m, c, h7 1 _ rfl, h4, h5⟩
  · rcases h.2 with h0 | ⟨b, o, hA, hc⟩
    · omega
    · obtain ⟨cs, x, h1, h2, ⟨C, m, c, h3, h4, h5, h6⟩, h7⟩ := hc j hj
      have e : l.getD j (0, []) = x := by rw [List.getD_eq_getElem?_getD, h1]; rfl
      rw [e, h4.1]
      omega
theorem apt_load {l : List (Int × List UInt8)} {w0 w w' : World} {G pb : Nat} {ls : Nat → Loc} (hb : Below w0.heap.size w0 w) (hw : Below w.heap.size w w') (hd : DAt w' G pb ls (Pd.load l) 0) (hk : ∀ k, dF G pb ls l.length k → w.heap.size ≤ k) : Apt w0 w' G pb (Pd.load l) 0 (fun k => k < w.heap.size) :=
  ⟨ls, hd, below_then hb hw hb.size, fun k e => Nat.le_trans hb.size (hk k e), fun k e => ⟨Nat.lt_of_lt_of_le e hw.size, fun e2 => by have := hk k e2; omega⟩⟩
set_option maxRecDepth 100000 in
set_option maxHeartbeats 3200000 in
theorem diskLoads_any (A1 : Option Addr) (n1 c1 : Nat) (l : List (Int × List UInt8)) (A : Option Addr) (n c : Nat) (ss : List Ps) (w : World) (h1 : SpAt w A1 n1 l) (hb1 : ∀ j, j < n1 → (l.getD j (0, [])).2.length ≤ 140737488355328) (h : Script w A n ss) (hn : n ≤ 140737488351232) :
    Calls Try.prog 5 #[.slice A1 n1 c1, .slice A n c] w fun e w' => e = .returned (.bool true) ∧ Below w.heap.size w w' := by
  have hl := Lib.hid h.1
  have x1 := below_alloc w (.cells #[.slice A n c] 23)
  have k1 := Blk.fresh w #[.slice A n c] 23
  have hv := vast_any w.heap.size 1 1 (fun _ => ⟨A, n, c, ss⟩) (w.alloc (.cells #[.slice A n c] 23)) (fun j hj => by obtain rfl : j = 0 := (by omega); exact ⟨k1.cell 0, h.below x1, hn⟩) (by omega)
  have HV := Lib.hid hv
  have HH := Lib.hid h
  have HSP := Lib.hid h1
  have HSB := Lib.hid hb1
  clear hv k1 h h1 hb1
  go_enter Try.func5, Try.ntmps5
  go_wp2_with fail
  refine HV.out.mono ?_
  rintro e w1 ⟨b, rfl, hb1, htot⟩
  have hB1 := below_then x1 hb1 x1.size
  cases b with
  | true =>
    go_wp2_with fail
    go_ret
    exact ⟨rfl, hB1⟩
  | false =>
    have htot := htot rfl
    simp only [tot, Nat.zero_add] at htot
    have HTOT := Lib.hid htot
    clear htot HV x1 hb1
    go_wp2_with fail
    refine (refLoad_any A1 n1 c1 l w1 (HSP.out.below hB1) HSB.out).mono ?_
    rintro e w2 ⟨hb2, hcase⟩
    rcases hcase with ⟨hbad, rfl⟩ | ⟨hok, q, rfl, hra⟩
    · have hB2 := below_then hB1 hb2 hB1.size
      have x2 := below_alloc w2 (.cells #[.slice none 0 0, .bool false] 48)
      have hB3 := below_then hB2 x2 hB2.size
      go_wp2_with fail
      refine (diskLoad_any A1 n1 c1 l _ (HSP.out.below hB3) HSB.out).mono ?_
      rintro e w4 ⟨hb4, hcase⟩
      rcases hcase with ⟨-, rfl⟩ | ⟨hok, -⟩
      · have hB4 := below_then hB3 hb4 hB3.size
        go_wp2_with fail
        refine (fixed_any _).mono ?_
        rintro e w5 ⟨rfl, hb5⟩
        go_wp2_with fail
        go_ret
        exact ⟨rfl, below_then hB4 hb5 hB4.size⟩
      · exact absurd hok hbad
    · obtain ⟨m, hm⟩ : ∃ m, l.length = m := ⟨_, rfl⟩
      have HM := Lib.hid hm
      rw [hm]
      have hB2 := below_then hB1 hb2 hB1.size
      have x2 := below_alloc w2 (.cells #[.slice (some ⟨q, 0, none⟩) m m, .bool false] 48)
      have b2 := Blk.fresh w2 #[.slice (some ⟨q, 0, none⟩) m m, .bool false] 48
      have hB3 := below_then hB2 x2 hB2.size
      have hra3 := hra.below x2
      clear hra hm
      go_wp2_with fail
      refine (diskLoad_any A1 n1 c1 l _ (HSP.out.below hB3) HSB.out).mono ?_
      rintro e w4 ⟨hb4, hcase⟩
      rcases hcase with ⟨hbad, -⟩ | ⟨-, G, pb, ls, rfl, hD4, hk4⟩
      · exact absurd hok hbad
      · have hA4 := apt_load hB3 hb4 hD4 hk4
        have hra4 := hra3.below hb4
        have b4 := b2.keep hb4
        clear hD4 hk4 hra3 b2 x2
        go_wp2_with fail
        refine (fixed_any _).mono ?_
        rintro e w5 ⟨rfl, hb5⟩
        have hA5 := (hA4.below hb5).sub (F' := fun k => k < (w2.alloc (.cells #[.slice (some ⟨q, 0, none⟩) m m, .bool false] 48)).heap.size) (fun k e => .inl e)
        have hra5 := hra4.below hb5
        have b5 := b4.keep hb5
        have c0 : w5.cell? ⟨w2.heap.size, 0, none⟩ = some (.slice (some ⟨q, 0, none⟩) m m) := b5.cell 0
        have c1 : w5.cell? ⟨w2.heap.size, 1, none⟩ = some (.bool false) := b5.cell 1
        have hdo := does_any hA5 hra5 (fun k e => by rw [World.size_alloc]; omega) HH.out hn (by have := HTOT.out; omega) m c
        unfold rV Pd.load at hdo
        simp only [HM.out] at hdo
        have HDO := Lib.hid hdo
        clear hdo hA5 hA4 hra5 hra4 b4 b5 hb4 hb5 hB2 hB3
        go_wp2_with fail
        refine HDO.out.mono ?_
        rintro e w6 ⟨rfl, -, hB6⟩
        go_wp2_with fail
        go_ret
        exact ⟨rfl, hB6⟩
end Go.Proofs.Ytodaplkijdjbpaa
