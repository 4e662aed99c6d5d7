/- does, walked. -/
import Derived.Test.YtodaplkijdjbpaaTwo
import Derived.Test.YtodaplkijdjbpaaWant
namespace Go.Proofs.Ytodaplkijdjbpaa
open Go.RowKit
set_option linter.unusedVariables false
set_option linter.unusedSimpArgs false
/-- In the middle of does: the disk, the document's disk in blocks of its own, the variable want. -/
structure Dos (w0 w wr : World) (G pb : Nat) (Q : Pd) (K : Nat) (F Fx : Nat → Prop) (A : Option Addr) (c : Nat) : Prop where
  apt : Apt w0 wr G pb Q K (fun q => F q ∨ Fx q)
  ref : RAt wr A Q Fx
  box : Blk wr w.heap.size #[.slice A Q.n c, .bool Q.armed] 48
  off : ¬ Fx w.heap.size
  chg : Chg (fun k => ¬ F k) w wr
  lo : w0.heap.size ≤ w.heap.size
  flt : ∀ k, F k → k < w.heap.size
section
variable {w0 w wr w1 : World} {G pb K L c c' : Nat} {Q Q' : Pd} {F Fx Fy : Nat → Prop} {A A' : Option Addr}
theorem Dos.below (h : Dos w0 w wr G pb Q K F Fx A c) (hb : Below wr.heap.size wr w1) : Dos w0 w w1 G pb Q K F Fx A c :=
  ⟨(h.apt.below hb).sub (fun k e => .inl e), h.ref.below hb, h.box.keep hb, h.off, h.chg.then_ hb, h.lo, h.flt⟩
theorem Dos.mono (h : Dos w0 w wr G pb Q K F Fx A c) (hk : K ≤ L) : Dos w0 w wr G pb Q L F Fx A c := ⟨h.apt.mono hk, h.ref, h.box, h.off, h.chg, h.lo, h.flt⟩
theorem Dos.fx (h : Dos w0 w wr G pb Q K F Fx A c) : ∀ k, Fx k → k < wr.heap.size := fun k e => h.apt.flt k (.inr e)
theorem Dos.start {P : Pd} (h : Apt w0 w G pb P K F) (hr : RAt w A P Fx) (hF : ∀ k, Fx k → F k) : Dos w0 w (w.alloc (.cells #[.slice A P.n c, .bool P.armed] 48)) G pb P K F Fx A c := by
  have x := below_alloc w (.cells #[.slice A P.n c, .bool P.armed] 48)
  refine ⟨(h.below x).sub (fun k e => .inl (by rcases e with e | e; exact e; exact hF k e)), hr.below x, Blk.fresh _ _ _, fun e => ?_, chg_below x _, h.low.size, h.flt⟩
  have := h.flt _ (hF _ e)
  omega
/-- The disk goes on; the document's stays. -/
theorem Dos.next (h : Dos w0 w wr G pb Q K F Fx A c) : ∃ ls, DAt wr G pb ls Q K ∧ (w0.heap.size ≤ G ∧ w0.heap.size ≤ pb) ∧ ∀ Q' L w', DTo wr G pb ls Q' L w' Q.n → Q'.n = Q.n →
    Apt w0 w' G pb Q' L (fun q => F q ∨ Fx q) ∧ Chg (fun k => ¬ (F k ∨ Fx k)) wr w' := by
  obtain ⟨ls, hd, hg, nx⟩ := h.apt.next
  exact ⟨ls, hd, hg, fun Q' L w' ht hn => ⟨(nx Q' L w' ht hn).1, (nx Q' L w' ht hn).2.1⟩⟩
end
/-- What the disk's call comes to beside blocks that are not the disk's. -/
def AskTo (w0 w8 : World) (G pb : Nat) (Q : Pd) (L : Nat) (s : Ps) (Fz : Nat → Prop) (e : Ending) (w' : World) : Prop :=
  ∃ v', e = .returned v' ∧ TdAt w' v' (Q.told s) ∧ Apt w0 w' G pb (Q.step s) L Fz ∧ Chg (fun k => ¬ Fz k) w8 w' ∧
    ∀ p cs t, Blk w8 p cs t → 83 ≠ t → 87 ≠ t → 116 ≠ t → 5 ≠ t → Blk w' p cs t
theorem ask_any {w0 w8 : World} {G pb K L : Nat} {Q : Pd} {Fz : Nat → Prop} {v : Value} {s : Ps} {A : Option Addr} (h : Apt w0 w8 G pb Q K Fz) (hs : PsAt w8 v s A) (hA : s.f ≠ [] → ∀ q, blkO A = some q → q < w0.heap.size) (hk : K + s.p.length + 1 ≤ L) (hL : L ≤ 4294967296) (w9 : World) (h9 : Below w8.heap.size w8 w9) :
    Calls Try.prog 16 #[.pointer (some ⟨G, 0, none⟩), v] w9 (AskTo w0 w8 G pb Q L s Fz) := by
  have h9' := (h.below h9).sub (F' := Fz) (fun k e => .inl e)
  obtain ⟨ls, hD, ⟨hg1, hg2⟩, nx⟩ := h9'.next
  refine (call_any hD (hs.below h9) (fun hne q hq => by have := hA hne q hq; exact ⟨by omega, by omega⟩) hk hL).mono ?_
  rintro e w' ⟨v', he, h1, h2⟩
  obtain ⟨n1, n2, n3⟩ := nx _ _ _ h2 (Q.step_n _)
  exact ⟨v', he, h1, n1, Chg.after h9 n2, fun p cs t hb t1 t2 t3 t4 => h2.blk hD (hb.keep h9) t1 t2 t3 t4⟩
theorem boxes_at {w : World} {p q : Nat} {a0 a1 a2 a3 a4 a5 b0 b1 b2 b3 b4 b5 : Value} {t t' : TypeId} (h : Blk w p #[a0, a1, a2, a3, a4, a5] t) (h' : Blk w q #[b0, b1, b2, b3, b4, b5] t') :
    w.cell? ⟨p, 0, none⟩ = some a0 ∧ w.cell? ⟨p, 1, none⟩ = some a1 ∧ w.cell? ⟨p, 2, none⟩ = some a2 ∧ w.cell? ⟨p, 3, none⟩ = some a3 ∧ w.cell? ⟨p, 4, none⟩ = some a4 ∧ w.cell? ⟨p, 5, none⟩ = some a5 ∧
    w.cell? ⟨q, 0, none⟩ = some b0 ∧ w.cell? ⟨q, 1, none⟩ = some b1 ∧ w.cell? ⟨q, 2, none⟩ = some b2 ∧ w.cell? ⟨q, 3, none⟩ = some b3 ∧ w.cell? ⟨q, 4, none⟩ = some b4 ∧ w.cell? ⟨q, 5, none⟩ = some b5 :=
  ⟨h.cell 0, h.cell 1, h.cell 2, h.cell 3, h.cell 4, h.cell 5, h'.cell 0, h'.cell 1, h'.cell 2, h'.cell 3, h'.cell 4, h'.cell 5⟩
/-- Behind Want: what lies there. -/
structure Amid (w0 w w5 w8 : World) (G pb : Nat) (Q R : Pd) (K : Nat) (F Fy : Nat → Prop) (A A6 : Option Addr) (c c6 : Nat) (tc : Array Value) (T : Td) (ga gt gn : Nat) (sc : Array Value) : Prop where
  apt : Apt w0 w8 G pb Q K (fun q => F q ∨ Fy q)
  ref : RAt w8 A6 R Fy
  td : TdF Fy w8 (.agg tc) T
  box : Blk w8 w.heap.size #[.slice A Q.n c, .bool Q.armed] 48
  bs : Blk w8 ga sc 33
  bt : Blk w8 gt tc 36
  bn : Blk w8 gn #[.slice A6 R.n c6, .bool R.armed] 48
  off : ¬ Fy w.heap.size
  ne : gn ≠ w.heap.size
  chg : Chg (fun k => ¬ F k) w w8
  lo : w0.heap.size ≤ w.heap.size
  flt : ∀ k, F k → k < w.heap.size
theorem mid_of {w0 w w5 w6 : World} {G pb K c c6 ba : Nat} {Q R : Pd} {F Fx : Nat → Prop} {A A6 : Option Addr} {tc sc : Array Value} {T : Td} (h : Dos w0 w w5 G pb Q K F Fx A c) (hs : Blk w5 ba sc 33) (ht : TdF (New Fx w5 w6) w6 (.agg tc) T) (hr : RAt w6 A6 R (New Fx w5 w6)) (hb : Below w5.heap.size w5 w6) :
    Amid w0 w w5 ((w6.alloc (.cells tc 36)).alloc (.cells #[.slice A6 R.n c6, .bool R.armed] 48)) G pb Q R K F (New Fx w5 w6) A A6 c c6 tc T ba w6.heap.size (w6.heap.size + 1) sc := by
  have x7 := below_alloc w6 (.cells tc 36)
  have t7 := Blk.fresh w6 tc 36
  have hz : (w6.alloc (.cells tc 36)).heap.size = w6.heap.size + 1 := by simp
  obtain ⟨w7, hw7⟩ : ∃ w7, w6.alloc (.cells tc 36) = w7 := ⟨_, rfl⟩
  rw [hw7] at x7 t7 hz ⊢
  have x8 := below_alloc w7 (.cells #[.slice A6 R.n c6, .bool R.armed] 48)
  have n8 := Blk.fresh w7 #[.slice A6 R.n c6, .bool R.armed] 48
  rw [hz] at n8
  have hx := below_then x7 x8 x7.size
  have hy := below_then hb hx hb.size
  have hlt := h.box.lt
  have h6 := hb.size
  refine ⟨?_, hr.below hx, ht.chg (chg_below hx _), h.box.keep hy, hs.keep hy, t7.keep x8, n8, ?_, by omega, h.chg.then_ hy, h.lo, h.flt⟩
  · refine (h.apt.below hy).sub (fun k e => ?_)
    have h8 := hx.size
    rcases e with e | e | e
    · exact .inl (.inl e)
    · exact .inl (.inr e)
    · exact .inr ⟨e.1, by omega⟩
  · rintro (e | e)
    · exact h.off e
    · omega
/-- Behind the disk's call. -/
theorem Amid.after {w0 w w5 w8 w3 w4 : World} {G pb K L c c6 ba bt bn : Nat} {Q R R' : Pd} {F Fy : Nat → Prop} {A A6 : Option Addr} {tc sc : Array Value} {T : Td} (h : Amid w0 w w5 w8 G pb Q R K F Fy A A6 c c6 tc T ba bt bn sc) (ha : Apt w0 w3 G pb R' L (fun q => F q ∨ Fy q)) (hR : R' = R) (hc : Chg (fun k => ¬ (F k ∨ Fy k)) w8 w3)
    (hk : ∀ p cs t, Blk w8 p cs t → 83 ≠ t → 87 ≠ t → 116 ≠ t → 5 ≠ t → Blk w3 p cs t) (hb : Below w3.heap.size w3 w4) :
    Blk w4 bn #[.slice A6 R.n c6, .bool R.armed] 48 ∧ Blk w4 w.heap.size #[.slice A Q.n c, .bool Q.armed] 48 ∧
      Dos w0 w ((w4.setCell ⟨w.heap.size, 0, none⟩ (.slice A6 R.n c6)).setCell ⟨w.heap.size, 1, none⟩ (.bool R.armed)) G pb R L F Fy A6 c6 := by
  subst hR
  have b4 := (hk _ _ _ h.bn (by decide) (by decide) (by decide) (by decide)).keep hb
  have d4 := (hk _ _ _ h.box (by decide) (by decide) (by decide) (by decide)).keep hb
  have hS := (chg_set w4 w.heap.size 0 (.slice A6 R'.n c6)).set (.inl rfl) 1 (.bool R'.armed)
  have hcc := hc.then_ hb
  refine ⟨b4, d4, ?_, ?_, (d4.set 0 _).set 1 _, h.off, ?_, h.lo, h.flt⟩
  · exact ((ha.below hb).sub (F' := fun q => F q ∨ Fy q) (fun k e => .inl e)).other hS (fun k e => by subst e; exact ⟨_, _, d4, by decide, by decide, by decide, by decide⟩) (fun k e => by subst e; exact h.lo)
  · exact (h.ref.chg (hcc.mono (fun k e e2 => e (.inr e2)))).chg (hS.mono (fun k e e2 => h.off (e ▸ e2)))
  · exact (h.chg.trans (F1 := fun k => ¬ F k) (hcc.mono (fun k e e2 => e (.inl e2))) (fun k e => .inl e)).trans hS (fun k e => .inl (fun e2 => by have := h.flt k e2; omega))
theorem told_len (Q : Pd) (s : Ps) {K : Nat} (h : Q.lim K) : (Q.told s).s.length ≤ 281474976710656 := by
  have h1 := h.n1
  unfold Pd.told
  repeat' split
  all_goals first | (simp [Td.no]; done) | (simp [Td.no, Pd.image, Pd.imageK]; omega)
theorem two_keep {w w1 : World} {g : Nat} {a b : Value} (h : w.cell? ⟨g, 0, none⟩ = some a ∧ w.cell? ⟨g, 1, none⟩ = some b) (hb : Below w.heap.size w w1) : w1.cell? ⟨g, 0, none⟩ = some a ∧ w1.cell? ⟨g, 1, none⟩ = some b :=
  ⟨(hb.cell (p := ⟨g, 0, none⟩) (block_lt_of_cell h.1)).trans h.1, (hb.cell (p := ⟨g, 1, none⟩) (block_lt_of_cell h.2)).trans h.2⟩
theorem done_val {w : World} {G pb K : Nat} {ls : Nat → Loc} {P : Pd} {j : Nat} (h : DAt w G pb ls P K) (hj : j < P.n) (q : Nat) :
    Calls Try.prog 36 #[.pointer (some ⟨G, 0, none⟩), .int .i64 (j : Int)] (w.drewN q) fun e w' => e = .returned (.int .i64 ((P.p j).done : Nat)) ∧ ∃ k, w' = (w.drewN q).drewN k := by
  refine (diskDone_any (h.below (below_drew7 w q)) j).mono ?_
  rintro e w' ⟨rfl, rfl⟩
  refine ⟨?_, 0, rfl⟩
  unfold Pd.dones
  rw [if_neg (by omega), Int.toNat_natCast]
set_option maxRecDepth 100000 in
set_option maxHeartbeats 3200000 in
theorem does_any {w0 w : World} {G pb K : Nat} {P : Pd} {F Fr : Nat → Prop} {A : Option Addr} {A2 : Option Addr} {n : Nat} {ss : List Ps} (h : Apt w0 w G pb P K F) (hr : RAt w A P Fr) (hF : ∀ k, Fr k → F k) (hs : Script w0 A2 n ss) (hn : n ≤ 140737488351232) (hk : K + wrN ss n ≤ 2147483648) (c c2 : Nat) :
    Calls Try.prog 24 #[.pointer (some ⟨G, 0, none⟩), rV P A c, .slice A2 n c2] w fun e w' => e = .returned (.bool true) ∧ Chg (fun k => ¬ F k) w w' ∧ Below w0.heap.size w0 w' := by
  have hl := Lib.hid hs.1
  have hkk := Lib.hid hk
  have D0 := Lib.hid (Dos.start (c := c) h hr hF)
  clear h hr hk
  unfold rV
  go_enter Try.func24, Try.ntmps24
  go_wp2_with fail
  generalize w.alloc (.cells #[.slice A P.n c, .bool P.armed] 48) = w1 at *
  go_loopw [20] (fun iv wr => ∃ k : Nat, ∃ Q A1 c1 Fx, k ≤ n ∧ iv = .int .i64 k ∧ Dos w0 w wr G pb Q (K + wrN ss k) F Fx A1 c1) (fun iv _ => n - (intOf iv).toNat)
  case atStart => exact ⟨0, _, _, _, _, Nat.zero_le _, rfl, D0.out⟩
  case round =>
    clear D0
    obtain ⟨k, Q, A1, c1, Fx, hk, rfl, hD⟩ := hrel
    by_cases hlt : k < n
    · have hBr := hD.apt.low
      obtain ⟨b, o, s, C, mc, cc, FA, l, d, rfl, hsk, q0, q1, q2, q3, q4, q5, hpsA, hlm, hfa, hml⟩ := Script.at_all hs hBr k hlt
      have hsu := wrN_succ ss k s hsk
      have hmo := wrN_mono ss (k + 1) n hlt (by rw [hl.out]; exact Nat.le_refl _)
      have hkk2 := hkk.out
      obtain ⟨K1, hK1⟩ : ∃ K1, K + wrN ss k = K1 := ⟨_, rfl⟩
      obtain ⟨K2, hK2⟩ : ∃ K2, K + wrN ss (k + 1) = K2 := ⟨_, rfl⟩
      have hL : K1 + s.p.length + 1 ≤ K2 := by omega
      have hL2 : K2 ≤ 2147483648 := by omega
      have HK2 := Lib.hid hK2
      rw [hK1] at hD
      have j0 : (0 : Int) ≤ (k : Int) := by omega
      have j1 : (k : Int) < (n : Int) := by omega
      obtain ⟨sk, si, sa, sb, sp, sf⟩ := s
      simp only at q0 q1 q2 q3 q4 q5 hlm hfa hL
      clear hK1 hK2
      have x5 := below_alloc wr (.cells #[.int .i64 sk, .int .i64 si, .int .i64 sa, .int .i64 sb, .slice C mc cc, .slice FA l d] 33)
      have k5 := Blk.fresh wr #[.int .i64 sk, .int .i64 si, .int .i64 sa, .int .i64 sb, .slice C mc cc, .slice FA l d] 33
      have D5 := hD.below x5
      have HW := Lib.hid (want_any D5.ref D5.fx D5.apt.lim (hpsA _ D5.apt.low) hL (by omega) c1)
      have HD5 := Lib.hid D5
      have HK5 := Lib.hid k5
      have HPSA := Lib.hid hpsA
      have HFA := Lib.hid hfa
      have HL := Lib.hid (And.intro hL hL2)
      have hww : w.heap.size ≤ wr.heap.size := hD.chg.size
      have e0 := D5.box.cell 0
      have e1 := D5.box.cell 1
      simp only [List.getElem?_toArray, List.getElem?_cons_zero, List.getElem?_cons_succ] at e0 e1
      unfold rV at HW
      clear D5 k5 x5 hpsA hfa hL hL2 hsu hmo hkk2 hD hBr hsk
      go_wp2_with fail
      refine HW.out.mono ?_
      rintro e w6 ⟨v, A6, c6, rfl, htd, hra, hb6⟩
      have htd0 := htd
      obtain ⟨A7, m7, c7, B7, n7, d7, rfl, hby7, hsp7⟩ := htd0
      unfold rV
      obtain ⟨w5, hw5⟩ : ∃ w5, wr.alloc (.cells #[.int .i64 sk, .int .i64 si, .int .i64 sa, .int .i64 sb, .slice C mc cc, .slice FA l d] 33) = w5 := ⟨_, rfl⟩
      rw [hw5] at htd hra hb6 HD5 HK5
      clear hw5 HW e0 e1
      obtain ⟨T, hT⟩ : ∃ T, Q.told ⟨sk, si, sa, sb, sp, sf⟩ = T := ⟨_, rfl⟩
      obtain ⟨R, hR⟩ : ∃ R, Q.step ⟨sk, si, sa, sb, sp, sf⟩ = R := ⟨_, rfl⟩
      rw [hT] at htd hby7 hsp7 ⊢
      rw [hR] at hra ⊢
      have HTR := Lib.hid (And.intro hT hR)
      clear hT hR
      obtain ⟨E, TX, TY, TZ, TP, TS⟩ := T
      simp only at htd hby7 hsp7 ⊢
      have HM := Lib.hid (mid_of (c6 := c6) HD5.out HK5.out htd hra hb6)
      have hnTS : TS.length ≤ 281474976710656 := by
        have e := HTR.out.1
        have e2 : (Q.told ⟨sk, si, sa, sb, sp, sf⟩).s = TS := by rw [e]
        rw [← e2]
        exact told_len _ _ HD5.out.apt.lim
      have HTS := Lib.hid hnTS
      have HEND : Hid (Q.n = Q.n) := Lib.hid rfl
      clear hnTS hby7 hsp7 htd hra hb6 HD5 HK5
      go_upto_region 5 with fail
      generalize (w6.alloc (.cells #[.int .i64 E, .int .i64 TX, .int .i64 TY, .int .i64 TZ, .slice A7 m7 c7, .slice B7 n7 d7] 36)).alloc (.cells #[.slice A6 R.n c6, .bool R.armed] 48) = w8 at *
      generalize w6.heap.size = bt at *
      have HASK := Lib.hid (ask_any HM.out.apt (HPSA.out _ HM.out.apt.low) HFA.out HL.out.1 (by have := HL.out.2; omega))
      obtain ⟨y0, y1, y2, y3, y4, y5, z0, z1, z2, z3, z4, z5⟩ := boxes_at HM.out.bs HM.out.bt
      go_region_held3 (fun w' => w'.cell? ⟨wr.heap.size, 0, none⟩ = some (.int .i64 sk) ∧ w'.cell? ⟨wr.heap.size, 1, none⟩ = some (.int .i64 si) ∧ w'.cell? ⟨wr.heap.size, 2, none⟩ = some (.int .i64 sa) ∧ w'.cell? ⟨wr.heap.size, 3, none⟩ = some (.int .i64 sb) ∧ w'.cell? ⟨wr.heap.size, 4, none⟩ = some (.slice C mc cc) ∧ w'.cell? ⟨wr.heap.size, 5, none⟩ = some (.slice FA l d) ∧
        w'.cell? ⟨bt, 0, none⟩ = some (.int .i64 E) ∧ w'.cell? ⟨bt, 1, none⟩ = some (.int .i64 TX) ∧ w'.cell? ⟨bt, 2, none⟩ = some (.int .i64 TY) ∧ w'.cell? ⟨bt, 3, none⟩ = some (.int .i64 TZ) ∧ w'.cell? ⟨bt, 4, none⟩ = some (.slice A7 m7 c7) ∧ w'.cell? ⟨bt, 5, none⟩ = some (.slice B7 n7 d7))
        (first | exact boxes_at (kS.keep hb4) (kT.keep hb4) | exact boxes_at kS kT | exact boxes_at HM.out.bs HM.out.bt | exact boxes_at (HM.out.bs.keep (below_drew7 w8 _)) (HM.out.bt.keep (below_drew7 w8 _)))
        (first | (go_at_call 16; refine (HASK.out _ (Below.refl _ w8).drew).mono ?_; rintro e w3 ⟨v3, rfl, ht3, ha3, hc3, hk3⟩; rw [HTR.out.1] at ht3; have kS := hk3 _ _ _ HM.out.bs (by decide) (by decide) (by decide) (by decide); have kT := hk3 _ _ _ HM.out.bt (by decide) (by decide) (by decide) (by decide); have htt3 := (HM.out.td.chg (hc3.mono (fun k e e2 => e (.inr e2)))).at_) | (go_at_call 35; refine (alike_same _ _ _ _ ht3 htt3 HTS.out).mono ?_; rintro e w4 ⟨rfl, hb4⟩))
      obtain ⟨nb, wb, D4⟩ := HM.out.after ha3 HTR.out.2 hc3 hk3 hb4
      have n0 := nb.cell 0
      have n1 := nb.cell 1
      have o0 := wb.cell 0
      have o1 := wb.cell 1
      have of := wb.frozen
      simp only [List.getElem?_toArray, List.getElem?_cons_zero, List.getElem?_cons_succ] at n0 n1 o0 o1
      have HD4 := Lib.hid D4
      clear D4 nb wb ht3 ha3 hc3 hk3 kS kT htt3 hb4 HASK y0 y1 y2 y3 y4 y5 z0 z1 z2 z3 z4 z5 HM
      go_wp2_with fail
      go_roundw
      case rel => exact ⟨k + 1, _, _, _, _, hlt, by go_num, by rw [HK2.out]; exact HD4.out⟩
      case measure => simp [intOf]; omega
    · obtain rfl : k = n := by omega
      have e0 := hD.box.cell 0
      have hQ16 := hD.apt.lim.n1
      have hkk2 := hkk.out
      simp only [List.getElem?_toArray, List.getElem?_cons_zero] at e0
      have HD := Lib.hid hD
      clear hD
      go_wp2_with fail
      clear e0
      go_loopw [41] (fun iv wx => ∃ j : Nat, j ≤ Q.n ∧ iv = .int .i64 j ∧ Hid (Dos w0 w wx G pb Q (K + wrN ss k) F Fx A1 c1)) (fun iv _ => Q.n - (intOf iv).toNat)
      case atStart => exact ⟨0, Nat.zero_le _, rfl, HD⟩
      case round =>
        clear HD
        obtain ⟨j, hj, rfl, HE⟩ := hrel
        by_cases hlt2 : j < Q.n
        · obtain ⟨ls2, hDD, -, -⟩ := HE.out.next
          have h1 := diskBounds_any hDD j
          rw [bounds_ok Q j hlt2] at h1
          have hlim := HE.out.apt.lim.a j hlt2
          have l1 := hlim.b0
          have l2 := hlim.e
          have l3 := hlim.n
          have l4 := hlim.s
          have h2 : ∀ w1, Below wr.heap.size wr w1 → Calls Try.prog 28 #[.pointer (some ⟨G, 0, none⟩), .int .i64 (j : Int), .int .i64 (Q.p j).base, .int .i64 ((Q.p j).bs.length : Nat)] w1 (RdTo ((Q.p j).bs, 0) w1) := fun w1 hb1 => by
            rw [← read_all Q j hlt2]
            exact diskRead_any (hDD.below hb1) (by omega) j _ _ (by omega) (by omega)
          have H1 := Lib.hid h1
          have H2 := Lib.hid h2
          have HDD := Lib.hid hDD
          obtain ⟨pa, hpa⟩ : ∃ pa, Q.p j = pa := ⟨_, rfl⟩
          rw [hpa] at l1 l2 l3 l4 H1 H2
          have HPA := Lib.hid hpa
          obtain ⟨N, hN⟩ : ∃ N, pa.bs.length = N := ⟨_, rfl⟩
          have HN := Lib.hid hN
          rw [hN] at l2 l3 l4 H1 H2
          have e1 : pa.base + (N : Int) - pa.base = (N : Int) := by omega
          have j0 : (0 : Int) ≤ (j : Int) := by omega
          have j1 : (j : Int) < (Q.n : Int) := by omega
          clear h1 h2 hDD hlim hpa hN
          go_wp2_with fail
          refine H1.out.mono ?_
          rintro e wb ⟨rfl, hbb⟩
          have h3 := H2.out wb hbb
          simp only
          have H3 := Lib.hid h3
          have HBB := Lib.hid hbb
          clear h3 H1 H2 hbb
          go_wp2_with fail
          refine H3.out.mono ?_
          rintro e wd ⟨A3, c3, rfl, ho, hbd⟩
          simp only at ho ⊢
          rw [HN.out] at ho ⊢
          have hbx := below_then HBB.out hbd HBB.out.size
          have HE3 := Lib.hid (HE.out.below hbx)
          have hD3 := HDD.out.below hbx
          have by3 := own_bytes' ho (by omega)
          have w0' := HE3.out.box.cell 0
          simp only [List.getElem?_toArray, List.getElem?_cons_zero] at w0'
          obtain ⟨q, B, cc, rfl, a0, a1, a2, a3, a4, a5, a6, a7, a8⟩ := HE3.out.ref.at_ j hlt2
          rw [HPA.out] at a0 a1 a2 a3 a4 a5 a6 a7 a8
          have by4 := a7.1
          have hdv := fun q => done_val hD3 hlt2 q
          rw [HPA.out] at hdv
          have HDV := Lib.hid hdv
          have HBY := Lib.hid (And.intro by3 by4)
          rw [HN.out] at a3
          have r1 : pa.base + (pa.safe : Int) ≤ 9223372036854775807 := by omega
          clear HBB hbd hbx HE ho hD3 by3 by4 a7 a8 hdv H3 HDD a4 a5 a6
          go_upto_region 14 with fail
          go_quiet (first | (go_at_call 18; exact Calls.quiet_of (equal_val HBY.out.1 (by rw [← HN.out]; exact HBY.out.2) _)) | (go_at_call 36; exact Calls.quiet_of (HDV.out _)))
          have HE4 := Lib.hid (HE3.out.below (below_drew7 wd nq))
          clear HE3 HDV HBY w0' a0 a1 a2 a3
          go_wp2_with fail
          go_roundw
          case rel => exact ⟨j + 1, hlt2, by go_num, HE4⟩
          case measure => simp [intOf]; omega
        · obtain rfl : j = Q.n := by omega
          obtain ⟨ls2, hDD, -, -⟩ := HE.out.next
          have HDD := Lib.hid hDD
          have o0 := HE.out.box.cell 0
          have o1 := HE.out.box.cell 1
          simp only [List.getElem?_toArray, List.getElem?_cons_zero, List.getElem?_cons_succ] at o0 o1
          have HO := Lib.hid (And.intro o0 o1)
          have hql : Q.image.length = Q.n := by simp [Pd.image, Pd.imageK]
          have HQL := Lib.hid hql
          clear hDD hql
          go_upto_region 17 with fail
          go_region_held3 (fun w' => w'.cell? ⟨w.heap.size, 0, none⟩ = some (.slice A1 Q.n c1) ∧ w'.cell? ⟨w.heap.size, 1, none⟩ = some (.bool Q.armed))
            (first | exact two_keep HO.out k5 | exact two_keep HO.out k4 | exact two_keep HO.out k3 | exact HO.out | exact two_keep HO.out (below_drew7 wr _))
            (first
              | (go_at_call 21; refine (diskImage_any (HDD.out.below (Below.refl _ wr).drew)).mono ?_; rintro e w3 ⟨A10, n10, c10, qs, rfl, hSp, hqs, hb3⟩; have k3 : Below wr.heap.size wr w3 := (Below.refl _ wr).drew.trans hb3; have hsp3 := hSp.at_ (fun x hx => image_len (HDD.out.below (Below.refl _ wr).drew) hSp hqs (by omega) x hx))
              | (go_at_call 46; refine (refImage_any (HE.out.ref.below k3) (fun k e => Nat.lt_of_lt_of_le (HE.out.fx k e) k3.size) HE.out.apt.lim (by omega) c1).mono ?_; rintro e w4 ⟨A11, n11, c11, qs2, rfl, hSp2, hqs2, hb4⟩; have k4 := below_then k3 hb4 k3.size; have hsp4 := hSp2.at_ (fun x hx => image_len (HDD.out.below k3) hSp2 hqs2 (by omega) x hx); have hsp34 := hsp3.below hb4; rw [hqs] at hsp34; rw [hqs2] at hsp4; have n34 : n10 = n11 := hsp34.1.symm.trans hsp4.1; subst n34)
              | (go_at_call 31; refine (spansAlike_same _ _ _ _ _ _ _ hsp34 hsp4 (by rw [← hsp4.1, HQL.out]; omega)).mono ?_; rintro e w5 ⟨rfl, q5, rfl⟩; have k5 := below_then k4 (below_drew7 w4 q5) k4.size)
              | (go_at_call 41; refine (diskAreas_any (HDD.out.below k5)).mono ?_; rintro e w6 ⟨rfl, rfl⟩))
          have hfin := HE.out.below k5
          have HFIN := Lib.hid hfin
          clear hfin k3 k4 k5 hb3 hb4 hSp hSp2 hqs hqs2 hsp3 hsp4 hsp34 o0 o1
          go_wp2_with fail
          go_ret
          exact ⟨rfl, HFIN.out.chg, HFIN.out.apt.low⟩
end Go.Proofs.Ytodaplkijdjbpaa
