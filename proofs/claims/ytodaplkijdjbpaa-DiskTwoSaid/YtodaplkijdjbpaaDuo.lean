/- Two disks and the document's two, in rows: words for DiskTwo. -/
import Derived.Test.YtodaplkijdjbpaaDoesW
import Derived.Test.YtodaplkijdjbpaaRefN
import Derived.Test.YtodaplkijdjbpaaFixed
namespace Go.Proofs.Ytodaplkijdjbpaa
open Go.RowKit
set_option linter.unusedVariables false
set_option linter.unusedSimpArgs false
/-- A row of pointers to the two disks. -/
def DRow (w : World) (bd : Nat) (G : Nat → Nat) : Prop := ∃ cs, Blk w bd cs 26 ∧ ∀ r, r < 2 → cs[r]? = some (.pointer (some ⟨G r, 0, none⟩))
/-- A row of the document's two disks. -/
def WRow (w : World) (bw : Nat) (P : Nat → Pd) (A : Nat → Option Addr) (c : Nat → Nat) : Prop := ∃ cs, Blk w bw cs 48 ∧ 4 ≤ cs.size ∧ ∀ r, r < 2 → cs[r * 2]? = some (.slice (A r) (P r).n (c r)) ∧ cs[r * 2 + 1]? = some (.bool (P r).armed)
theorem DRow.keep {w w1 : World} {bd : Nat} {G : Nat → Nat} (h : DRow w bd G) (hk : ∀ cs, Blk w bd cs 26 → Blk w1 bd cs 26) : DRow w1 bd G := by
  obtain ⟨cs, h1, h2⟩ := h
  exact ⟨cs, hk cs h1, h2⟩
theorem WRow.keep {w w1 : World} {bw : Nat} {P : Nat → Pd} {A : Nat → Option Addr} {c : Nat → Nat} (h : WRow w bw P A c) (hk : ∀ cs, Blk w bw cs 48 → Blk w1 bw cs 48) : WRow w1 bw P A c := by
  obtain ⟨cs, h1, h2⟩ := h
  exact ⟨cs, hk cs h1, h2⟩
theorem DRow.cell {w : World} {bd : Nat} {G : Nat → Nat} (h : DRow w bd G) (r : Nat) (hr : r < 2) : w.cell? ⟨bd, r, none⟩ = some (.pointer (some ⟨G r, 0, none⟩)) := by
  obtain ⟨cs, h1, h2⟩ := h
  exact (h1.cell _).trans (h2 r hr)
theorem WRow.cells {w : World} {bw : Nat} {P : Nat → Pd} {A : Nat → Option Addr} {c : Nat → Nat} (h : WRow w bw P A c) (r : Nat) (hr : r < 2) : w.cell? ⟨bw, r * 2, none⟩ = some (.slice (A r) (P r).n (c r)) ∧ w.cell? ⟨bw, r * 2 + 1, none⟩ = some (.bool (P r).armed) ∧ ∀ j, w.frozen? ⟨bw, j, none⟩ = false := by
  obtain ⟨cs, h1, _, h2⟩ := h
  exact ⟨(h1.cell _).trans (h2 r hr).1, (h1.cell _).trans (h2 r hr).2, h1.frozen⟩
theorem WRow.put {w : World} {bw : Nat} {P : Nat → Pd} {A : Nat → Option Addr} {c : Nat → Nat} (h : WRow w bw P A c) (r : Nat) (hr : r < 2) (R : Pd) (A6 : Option Addr) (c6 : Nat) :
    WRow ((w.setCell ⟨bw, r * 2, none⟩ (.slice A6 R.n c6)).setCell ⟨bw, r * 2 + 1, none⟩ (.bool R.armed)) bw (upd P r R) (upd A r A6) (upd c r c6) ∧ Chg (fun k => k = bw) w ((w.setCell ⟨bw, r * 2, none⟩ (.slice A6 R.n c6)).setCell ⟨bw, r * 2 + 1, none⟩ (.bool R.armed)) := by
  obtain ⟨cs, h1, hz, h2⟩ := h
  refine ⟨⟨_, (h1.set _ _).set _ _, by simp only [Array.size_setIfInBounds]; exact hz, fun j hj => ?_⟩, (chg_set w bw _ _).set (.inl rfl) _ _⟩
  by_cases e : j = r
  · subst e
    simp only [upd_same]
    exact ⟨by rw [set_off (by omega), set_at (by omega)], by rw [set_at (by simp only [Array.size_setIfInBounds]; omega)]⟩
  · simp only [upd_other _ _ _ _ e]
    exact ⟨by rw [set_off (by omega), set_off (by omega)]; exact (h2 j hj).1, by rw [set_off (by omega), set_off (by omega)]; exact (h2 j hj).2⟩
/-- Two disks, the document's two, and the rows in which they lie. -/
structure Duo (w wr : World) (G pb : Nat → Nat) (P : Nat → Pd) (K : Nat) (Fr : Nat → Prop) (A : Nat → Option Addr) (c : Nat → Nat) (bd bw : Nat) : Prop where
  two : Two w wr (G 0) (pb 0) (P 0) (G 1) (pb 1) (P 1) K Fr
  ref : ∀ r, r < 2 → RAt wr (A r) (P r) Fr
  dr : DRow wr bd G
  wr : WRow wr bw P A c
  off : ¬ Fr bw
  lo : w.heap.size ≤ bw
section
variable {w wr w1 : World} {G pb c : Nat → Nat} {P : Nat → Pd} {K L bd bw r : Nat} {Fr : Nat → Prop} {A : Nat → Option Addr}
theorem Duo.below (h : Duo w wr G pb P K Fr A c bd bw) (hb : Below wr.heap.size wr w1) : Duo w w1 G pb P K Fr A c bd bw :=
  ⟨(h.two.below hb).sub (fun k e => .inl e), fun r hr => (h.ref r hr).below hb, h.dr.keep (fun cs hc => hc.keep hb), h.wr.keep (fun cs hc => hc.keep hb), h.off, h.lo⟩
theorem Duo.at_ (h : Duo w wr G pb P K Fr A c bd bw) (hr : r < 2) : Two w wr (G r) (pb r) (P r) (G (1 - r)) (pb (1 - r)) (P (1 - r)) K Fr := by
  have e : r = 0 ∨ r = 1 := by omega
  rcases e with rfl | rfl
  · exact h.two
  · exact h.two.swap
theorem two_put {w0 wx : World} {G pb : Nat → Nat} {P : Nat → Pd} {L r : Nat} {F : Nat → Prop} {R : Pd} (hr : r < 2) (h : Two w0 wx (G r) (pb r) R (G (1 - r)) (pb (1 - r)) (P (1 - r)) L F) : Two w0 wx (G 0) (pb 0) (upd P r R 0) (G 1) (pb 1) (upd P r R 1) L F := by
  have e : r = 0 ∨ r = 1 := by omega
  rcases e with rfl | rfl
  · rw [upd_same, upd_other _ _ _ _ (by omega)]
    exact h
  · rw [upd_same, upd_other _ _ _ _ (by omega)]
    exact h.swap
end
/-- What a disk's call comes to beside the other. -/
def AskTo2 (w0 w8 : World) (G pb H qb : Nat) (Q Q2 : Pd) (L : Nat) (s : Ps) (Fz : Nat → Prop) (e : Ending) (w' : World) : Prop :=
  ∃ v', e = .returned v' ∧ TdAt w' v' (Q.told s) ∧ Two w0 w' G pb (Q.step s) H qb Q2 L Fz ∧ Chg (fun k => ¬ Fz k) w8 w' ∧
    ∀ p cs t, Blk w8 p cs t → 83 ≠ t → 87 ≠ t → 116 ≠ t → 5 ≠ t → Blk w' p cs t
theorem ask2_any {w0 w8 : World} {G pb H qb K L : Nat} {Q Q2 : Pd} {Fz : Nat → Prop} {v : Value} {s : Ps} {A : Option Addr} (h : Two w0 w8 G pb Q H qb Q2 K Fz) (hs : PsAt w8 v s A) (hA : s.f ≠ [] → ∀ q, blkO A = some q → q < w0.heap.size) (hk : K + s.p.length + 1 ≤ L) (hL : L ≤ 4294967296) (w9 : World) (h9 : Below w8.heap.size w8 w9) :
    Calls Try.prog 16 #[.pointer (some ⟨G, 0, none⟩), v] w9 (AskTo2 w0 w8 G pb H qb Q Q2 L s Fz) := by
  have h9' := (h.below h9).sub (F' := Fz) (fun k e => .inl e)
  obtain ⟨ls, hD, ⟨hg1, hg2⟩, nx⟩ := h9'.next
  refine (call_any hD (hs.below h9) (fun hne q hq => by have := hA hne q hq; exact ⟨by omega, by omega⟩) hk hL).mono ?_
  rintro e w' ⟨v', he, h1, h2⟩
  obtain ⟨n1, n2, n3⟩ := nx _ _ _ h2 (Q.step_n _) (by omega)
  exact ⟨v', he, h1, n1, Chg.after h9 n2, fun p cs t hb t1 t2 t3 t4 => h2.blk hD (hb.keep h9) t1 t2 t3 t4⟩
/-- Behind Want: what lies there. -/
structure Duw (w w8 : World) (G pb : Nat → Nat) (P : Nat → Pd) (K : Nat) (Fy : Nat → Prop) (A : Nat → Option Addr) (c : Nat → Nat) (bd bw : Nat) (R : Pd) (A6 : Option Addr) (c6 : Nat) (tc : Array Value) (T : Td) (ga gt gn : Nat) (sc : Array Value) : Prop where
  duo : Duo w w8 G pb P K Fy A c bd bw
  ref : RAt w8 A6 R Fy
  td : TdF Fy w8 (.agg tc) T
  bs : Blk w8 ga sc 33
  bt : Blk w8 gt tc 36
  bn : Blk w8 gn #[.slice A6 R.n c6, .bool R.armed] 48
  ne : gn ≠ bw
theorem duw_of {w w5 w6 : World} {G pb c : Nat → Nat} {P : Nat → Pd} {K bd bw c6 ga : Nat} {Fx : Nat → Prop} {A : Nat → Option Addr} {R : Pd} {A6 : Option Addr} {tc sc : Array Value} {T : Td} (h : Duo w w5 G pb P K Fx A c bd bw) (hs : Blk w5 ga sc 33) (ht : TdF (New Fx w5 w6) w6 (.agg tc) T) (hr : RAt w6 A6 R (New Fx w5 w6)) (hb : Below w5.heap.size w5 w6) :
    Duw w ((w6.alloc (.cells tc 36)).alloc (.cells #[.slice A6 R.n c6, .bool R.armed] 48)) G pb P K (New Fx w5 w6) A c bd bw R A6 c6 tc T ga w6.heap.size (w6.heap.size + 1) sc := by
  have x7 := below_alloc w6 (.cells tc 36)
  have t7 := Blk.fresh w6 tc 36
  have hz : (w6.alloc (.cells tc 36)).heap.size = w6.heap.size + 1 := by simp
  obtain ⟨w7, hw7⟩ : ∃ w7, w6.alloc (.cells tc 36) = w7 := ⟨_, rfl⟩
  rw [hw7] at x7 t7 hz ⊢
  have x8 := below_alloc w7 (.cells #[.slice A6 R.n c6, .bool R.armed] 48)
  have n8 := Blk.fresh w7 #[.slice A6 R.n c6, .bool R.armed] 48
  rw [hz] at n8
  have hx := below_then x7 x8 x7.size
  have hy := below_then hb hx hb.size
  obtain ⟨cs, hbw, _⟩ := h.wr
  have hlt := hbw.lt
  have h6 := hb.size
  have h8 := hx.size
  refine ⟨⟨(h.two.below hy).sub (fun k e => ?_), fun r hr => ((h.ref r hr).below hy).mono (fun k e => .inl e), h.dr.keep (fun cs hc => hc.keep hy), h.wr.keep (fun cs hc => hc.keep hy), ?_, h.lo⟩, hr.below hx, ht.chg (chg_below hx _), hs.keep hy, t7.keep x8, n8, by omega⟩
  · rcases e with e | e
    · exact .inl e
    · exact .inr ⟨e.1, by omega⟩
  · rintro (e | e)
    · exact h.off e
    · omega
/-- Behind the disk's call, and the variable's store. -/
theorem Duw.after {w w8 w3 w4 : World} {G pb c : Nat → Nat} {P : Nat → Pd} {K L bd bw c6 ga gt gn r : Nat} {Fy : Nat → Prop} {A : Nat → Option Addr} {R R' : Pd} {A6 : Option Addr} {tc sc : Array Value} {T : Td} (h : Duw w w8 G pb P K Fy A c bd bw R A6 c6 tc T ga gt gn sc) (hr : r < 2)
    (ha : Two w w3 (G r) (pb r) R' (G (1 - r)) (pb (1 - r)) (P (1 - r)) L Fy) (hR : R' = R) (hc : Chg (fun k => ¬ Fy k) w8 w3) (hk : ∀ p cs t, Blk w8 p cs t → 83 ≠ t → 87 ≠ t → 116 ≠ t → 5 ≠ t → Blk w3 p cs t) (hb : Below w3.heap.size w3 w4) :
    Blk w4 gn #[.slice A6 R.n c6, .bool R.armed] 48 ∧ WRow w4 bw P A c ∧
      Duo w ((w4.setCell ⟨bw, r * 2, none⟩ (.slice A6 R.n c6)).setCell ⟨bw, r * 2 + 1, none⟩ (.bool R.armed)) G pb (upd P r R) L Fy (upd A r A6) (upd c r c6) bd bw := by
  subst hR
  have b4 := (hk _ _ _ h.bn (by decide) (by decide) (by decide) (by decide)).keep hb
  have w4' := h.duo.wr.keep (w1 := w4) (fun cs hc => (hk _ _ _ hc (by decide) (by decide) (by decide) (by decide)).keep hb)
  have d4 := h.duo.dr.keep (w1 := w4) (fun cs hc => (hk _ _ _ hc (by decide) (by decide) (by decide) (by decide)).keep hb)
  obtain ⟨wp, hS⟩ := w4'.put r hr R' A6 c6
  have hcc := hc.then_ hb
  have hSn : Chg (fun k => ¬ Fy k) w4 _ := hS.mono (fun k e e2 => h.duo.off (e ▸ e2))
  have w4c := w4'
  obtain ⟨cs, hbw0, _⟩ := w4c
  refine ⟨b4, w4', ?_, fun j hj => ?_, ?_, wp, h.duo.off, h.duo.lo⟩
  · exact two_put hr (((ha.below hb).sub (F' := Fy) (fun k e => .inl e)).other hS (fun k e => by subst e; exact ⟨_, _, hbw0, by decide, by decide, by decide, by decide⟩) (fun k e => by subst e; exact h.duo.lo))
  · by_cases e : j = r
    · subst e
      simp only [upd_same]
      exact (h.ref.chg hcc).chg hSn
    · simp only [upd_other _ _ _ _ e]
      exact ((h.duo.ref j hj).chg hcc).chg hSn
  · obtain ⟨cs', hd, hd2⟩ := d4
    exact ⟨cs', hd.chg hS (fun e => by subst e; exact blk_type hd hbw0 (by decide) rfl), hd2⟩
/-- A row of which a block is the call's own. -/
theorem own_to_blk {w : World} {B : Nat} {e : TypeId} {z n x : Nat} {v : Value} {xs : List Value} (h : w.ownsRow B e z v n xs) (hx : v.ownBlock = some x) : ∃ cs, Blk w x cs e := by
  rcases h.2 with ⟨rfl, _⟩ | ⟨g, cap, cur, rfl, _, hg, _⟩
  · cases hx
  · simp only [Value.ownBlock, Option.some.injEq] at hx
    subst hx
    exact ⟨cur, hg⟩
def drv (G : Nat → Nat) (k : Nat) : List Value := (List.range k).map fun j => .pointer (some ⟨G j, 0, none⟩)
def wrv (A : Nat → Option Addr) (k : Nat) : List Value := (List.range k).flatMap fun j => [.slice (A j) (2 + j) (2 + j), .bool false]
theorem drv_add (G : Nat → Nat) (k x : Nat) : drv (upd G k x) (k + 1) = drv G k ++ [.pointer (some ⟨x, 0, none⟩)] := by
  unfold drv
  rw [List.range_succ, List.map_append, List.map_singleton, upd_same]
  congr 1
  refine List.map_congr_left fun j hj => ?_
  rw [List.mem_range] at hj
  rw [upd_other _ _ _ _ (by omega)]
theorem wrv_add (A : Nat → Option Addr) (k : Nat) (x : Option Addr) : wrv (upd A k x) (k + 1) = wrv A k ++ [.slice x (2 + k) (2 + k), .bool false] := by
  unfold wrv
  rw [List.range_succ, List.flatMap_append, List.flatMap_singleton, upd_same]
  congr 1
  have h : ∀ l : List Nat, (∀ j ∈ l, j < k) → (l.flatMap fun j => [Value.slice (upd A k x j) (2 + j) (2 + j), .bool false]) = l.flatMap fun j => [Value.slice (A j) (2 + j) (2 + j), .bool false] := by
    intro l
    induction l with
    | nil => intro _; rfl
    | cons a l ih =>
      intro hl
      rw [List.flatMap_cons, List.flatMap_cons, ih (fun j hj => hl j (List.mem_cons_of_mem _ hj)), upd_other _ _ _ _ (by have := hl a (List.mem_cons_self ..); omega)]
  exact h _ (fun j hj => List.mem_range.1 hj)
/-- The first k disks of each kind, while they are made. -/
structure Su (w wr : World) (k : Nat) (D : Option Addr) (dc : Nat) (W : Option Addr) (wc : Nat) (G pb : Nat → Nat) (ls : Nat → Nat → Loc) (A : Nat → Option Addr) (Fr : Nat → Prop) : Prop where
  dsk : ∀ j, j < k → DAt wr (G j) (pb j) (ls j) (Pd.new (2 + j)) 0 ∧ ∀ x, dF (G j) (pb j) (ls j) (2 + j) x → w.heap.size ≤ x ∧ ¬ Fr x
  ap : ∀ i j, i < k → j < k → i ≠ j → ∀ x, dF (G i) (pb i) (ls i) (2 + i) x → ¬ dF (G j) (pb j) (ls j) (2 + j) x
  ref : ∀ j, j < k → RAt wr (A j) (Pd.new (2 + j)) Fr
  frl : ∀ x, Fr x → x < wr.heap.size
  rd : wr.ownsRow w.heap.size 26 1 (.slice D k dc) k (drv G k)
  rw : wr.ownsRow w.heap.size 48 2 (.slice W k wc) k (wrv A k)
  offd : ∀ b, Value.ownBlock (.slice D k dc) = some b → ¬ Fr b
  offw : ∀ b, Value.ownBlock (.slice W k wc) = some b → ¬ Fr b
  low : Below w.heap.size w wr
theorem Su.start {w wr : World} (h : Below w.heap.size w wr) : Su w wr 0 none 0 none 0 (fun _ => 0) (fun _ => 0) (fun _ _ => ⟨0, none, 0⟩) (fun _ => none) (fun _ => False) :=
  ⟨fun j hj => absurd hj (by omega), fun i j hi => absurd hi (by omega), fun j hj => absurd hj (by omega), fun _ e => e.elim, World.ownsRow_nil _ _ _ _, World.ownsRow_nil _ _ _ _, fun _ _ e => e, fun _ _ e => e, h⟩
theorem Su.add {w wr w4 wx : World} {k : Nat} {D D' : Option Addr} {dc dc' : Nat} {W W' : Option Addr} {wc wc' : Nat} {G pb : Nat → Nat} {ls : Nat → Nat → Loc} {A : Nat → Option Addr} {Fr F2 : Nat → Prop} {H qb : Nat} {l2 : Nat → Loc} {q : Option Addr}
    (h : Su w wr k D dc W wc G pb ls A Fr) (hb : Below wr.heap.size wr w4) (hra : RAt w4 q (Pd.new (2 + k)) F2) (hF2 : ∀ x, F2 x → wr.heap.size ≤ x ∧ x < w4.heap.size) (hd : DAt w4 H qb l2 (Pd.new (2 + k)) 0) (hk : ∀ x, dF H qb l2 (2 + k) x → wr.heap.size ≤ x ∧ ¬ F2 x)
    (hC : Chg (fun x => Value.ownBlock (.slice D k dc) = some x ∨ Value.ownBlock (.slice W k wc) = some x) w4 wx)
    (hrd : wx.ownsRow w.heap.size 26 1 (.slice D' (k + 1) dc') (k + 1) (drv G k ++ [.pointer (some ⟨H, 0, none⟩)])) (hrw : wx.ownsRow w.heap.size 48 2 (.slice W' (k + 1) wc') (k + 1) (wrv A k ++ [.slice q (2 + k) (2 + k), .bool false]))
    (hod : Value.ownBlock (.slice D' (k + 1) dc') = Value.ownBlock (.slice D k dc) ∨ ∃ b, Value.ownBlock (.slice D' (k + 1) dc') = some b ∧ w4.heap.size ≤ b) (how : Value.ownBlock (.slice W' (k + 1) wc') = Value.ownBlock (.slice W k wc) ∨ ∃ b, Value.ownBlock (.slice W' (k + 1) wc') = some b ∧ w4.heap.size ≤ b) :
    Su w wx (k + 1) D' dc' W' wc' (upd G k H) (upd pb k qb) (upd ls k l2) (upd A k q) (fun x => Fr x ∨ F2 x) := by
  have hrd4 := own_below h.rd hb
  have hrw4 := own_below h.rw hb
  have hnd : ∀ {g p K : Nat} {l : Nat → Loc} {Q : Pd}, DAt w4 g p l Q K → ∀ x, dF g p l Q.n x → ¬ (Value.ownBlock (.slice D k dc) = some x ∨ Value.ownBlock (.slice W k wc) = some x) := by
    rintro g p K l Q hD x e (e2 | e2)
    · obtain ⟨cs, hc⟩ := own_to_blk hrd4 e2
      exact hD.off hc (by decide) (by decide) (by decide) (by decide) e
    · obtain ⟨cs, hc⟩ := own_to_blk hrw4 e2
      exact hD.off hc (by decide) (by decide) (by decide) (by decide) e
  have hs := h.low.size
  have h4 := hb.size
  have hx := hC.size
  have hold : ∀ x, (Value.ownBlock (.slice D k dc) = some x ∨ Value.ownBlock (.slice W k wc) = some x) → w.heap.size ≤ x ∧ x < wr.heap.size := by
    rintro x (e | e)
    · exact h.rd.lt x e
    · exact h.rw.lt x e
  refine ⟨fun j hj => ?_, fun i j hi hj hne x e e2 => ?_, fun j hj => ?_, fun x e => ?_, by rw [drv_add]; exact hrd, by rw [wrv_add]; exact hrw, fun b e e2 => ?_, fun b e e2 => ?_, (below_then h.low hb hs).trans (hC.below (by omega) (fun x e => (hold x e).1))⟩
  · by_cases e : j = k
    · subst e
      simp only [upd_same]
      refine ⟨hd.chg hC (hnd hd), fun x e => ⟨by have := (hk x e).1; omega, fun e2 => ?_⟩⟩
      rcases e2 with e2 | e2
      · have := h.frl x e2; have := (hk x e).1; omega
      · exact (hk x e).2 e2
    · simp only [upd_other _ _ _ _ e]
      obtain ⟨d1, d2⟩ := h.dsk j (by omega)
      have d4 := d1.below hb
      refine ⟨d4.chg hC (hnd d4), fun x e => ⟨(d2 x e).1, fun e2 => ?_⟩⟩
      rcases e2 with e2 | e2
      · exact (d2 x e).2 e2
      · have := hF2 x e2; have := d1.lt x e; omega
  · by_cases ei : i = k
    · subst ei
      rw [upd_same, upd_same, upd_same] at e
      rw [upd_other _ _ _ _ (fun e3 => hne e3.symm), upd_other _ _ _ _ (fun e3 => hne e3.symm), upd_other _ _ _ _ (fun e3 => hne e3.symm)] at e2
      have := (hk x e).1
      have := (h.dsk j (by omega)).1.lt x e2
      omega
    · rw [upd_other _ _ _ _ ei, upd_other _ _ _ _ ei, upd_other _ _ _ _ ei] at e
      by_cases ej : j = k
      · subst ej
        rw [upd_same, upd_same, upd_same] at e2
        have := (hk x e2).1
        have := (h.dsk i (by omega)).1.lt x e
        omega
      · rw [upd_other _ _ _ _ ej, upd_other _ _ _ _ ej, upd_other _ _ _ _ ej] at e2
        exact h.ap i j (by omega) (by omega) hne x e e2
  · by_cases e : j = k
    · subst e
      simp only [upd_same]
      exact (hra.chg (hC.mono (fun x e e2 => by have := hF2 x e2; have := hold x e; omega))).mono (fun x e => .inr e)
    · simp only [upd_other _ _ _ _ e]
      exact (((h.ref j (by omega)).below hb).chg (hC.mono (fun x e e2 => by
        rcases e with e | e
        · exact h.offd x e e2
        · exact h.offw x e e2))).mono (fun x e => .inl e)
  · rcases e with e | e
    · have := h.frl x e; omega
    · have := hF2 x e; omega
  · rcases hod with ho | ⟨b', ho, hb'⟩
    · rw [ho] at e
      rcases e2 with e2 | e2
      · exact h.offd b e e2
      · have := hF2 b e2; have := hold b (.inl e); omega
    · rw [ho] at e
      injection e with e
      subst e
      rcases e2 with e2 | e2
      · have := h.frl _ e2; omega
      · have := hF2 _ e2; omega
  · rcases how with ho | ⟨b', ho, hb'⟩
    · rw [ho] at e
      rcases e2 with e2 | e2
      · exact h.offw b e e2
      · have := hF2 b e2; have := hold b (.inr e); omega
    · rw [ho] at e
      injection e with e
      subst e
      rcases e2 with e2 | e2
      · have := h.frl _ e2; omega
      · have := hF2 _ e2; omega
/-- Both are there. -/
theorem Su.duo {w wr : World} {D : Option Addr} {dc : Nat} {W : Option Addr} {wc : Nat} {G pb : Nat → Nat} {ls : Nat → Nat → Loc} {A : Nat → Option Addr} {Fr : Nat → Prop} (h : Su w wr 2 D dc W wc G pb ls A Fr) :
    ∃ bd bw, D = some ⟨bd, 0, none⟩ ∧ W = some ⟨bw, 0, none⟩ ∧ Duo w wr G pb (fun r => Pd.new (2 + r)) 0 Fr A (fun r => 2 + r) bd bw := by
  obtain ⟨bd, cs, hD, hbd, hblk, hz, hc⟩ := own_blk h.rd (by omega)
  obtain ⟨bw, cs2, hW, hbw, hblk2, hz2, hc2⟩ := own_blk h.rw (by omega)
  refine ⟨bd, bw, hD, hW, ⟨⟨ls 1, (h.dsk 1 (by omega)).1, fun x e => (h.dsk 1 (by omega)).2 x e, ls 0, (h.dsk 0 (by omega)).1, h.low, fun x e => ((h.dsk 0 (by omega)).2 x e).1, fun x e => ?_⟩, h.ref, ⟨cs, hblk, fun r hr => ?_⟩, ⟨cs2, hblk2, hz2, fun r hr => ?_⟩, h.offw bw (by rw [hW]; rfl), hbw⟩⟩
  · rcases e with e | e
    · exact ⟨h.frl x e, fun e2 => ((h.dsk 0 (by omega)).2 x e2).2 e⟩
    · exact ⟨(h.dsk 1 (by omega)).1.lt x e, h.ap 1 0 (by omega) (by omega) (by omega) x e⟩
  · rw [hc r (by omega)]
    have e : r = 0 ∨ r = 1 := by omega
    rcases e with rfl | rfl <;> rfl
  · rw [hc2 (r * 2) (by omega), hc2 (r * 2 + 1) (by omega)]
    have e : r = 0 ∨ r = 1 := by omega
    rcases e with rfl | rfl <;> exact ⟨rfl, rfl⟩
theorem own_two {w : World} {B B' : Nat} {e e' : TypeId} {z z' n n' : Nat} {v v' : Value} {xs xs' : List Value} (h : w.ownsRow B e z v n xs) (h' : w.ownsRow B' e' z' v' n' xs') (hne : e ≠ e') (x : Nat) (h1 : v.ownBlock = some x) (h2 : v'.ownBlock = some x) : False := by
  obtain ⟨cs, b1⟩ := own_to_blk h h1
  obtain ⟨cs', b2⟩ := own_to_blk h' h2
  exact blk_type b1 b2 hne rfl
theorem info_dp : (Try.prog.info? 26).map (fun i => (i.zero, i.size, i.bytes)) = some (some (.pointer none), 1, 8) := by kernel_rfl
theorem info_rd : (Try.prog.info? 48).map (fun i => (i.zero, i.size, i.bytes)) = some (some (.agg #[.slice none 0 0, .bool false]), 2, 32) := by kernel_rfl
section
variable {a b : Prop} {F : Nat → Prop} {w0 w w' : World}
theorem hc4a {o : Obj} (h : a ∧ b ∧ Chg F w0 w) : Chg F w0 (w.alloc o).drew := h.2.2.then_ (below_alloc w o).drew
theorem hc4g {row : Option Nat} (hg : w.grownBy w' row) (h : a ∧ b ∧ Chg F w0 w) (hr : ∀ k, row = some k → F k ∨ w0.heap.size ≤ k) : Chg F w0 w' := h.2.2.trans (chg_grown hg) (fun k e => hr k e)
theorem hc4s (h : a ∧ b ∧ Chg F w0 w) : w0.heap.size ≤ w.heap.size := h.2.2.size
theorem keepC {g : Nat} {x y : Value} (hG : ¬ F g) (h0 : w0.cell? ⟨g, 0, none⟩ = some x) (h1 : w0.cell? ⟨g, 1, none⟩ = some y) (hc : Chg F w0 w) : w.cell? ⟨g, 0, none⟩ = some x ∧ w.cell? ⟨g, 1, none⟩ = some y ∧ Chg F w0 w :=
  ⟨hc.cell h0 hG, hc.cell h1 hG, hc⟩
end
/-- Two literals in either order. -/
theorem lits (w : World) (p q : Array Value) (t u : TypeId) :
    Below w.heap.size w (w.alloc (.cells p t)).drew ∧ Blk (w.alloc (.cells p t)).drew w.heap.size p t ∧
    Below w.heap.size w ((w.alloc (.cells p t)).alloc (.cells q u)).drew ∧ Blk ((w.alloc (.cells p t)).alloc (.cells q u)).drew w.heap.size p t ∧ Blk ((w.alloc (.cells p t)).alloc (.cells q u)).drew (w.heap.size + 1) q u := by
  have y1 := below_alloc w (.cells p t)
  have k1 : Blk (w.alloc (.cells p t)) w.heap.size p t := Blk.fresh w p t
  have z1 : (w.alloc (.cells p t)).heap.size = w.heap.size + 1 := by simp
  refine ⟨y1.drew, k1.keep ((Below.refl _ _).drew), ?_⟩
  obtain ⟨wa, hwa⟩ : ∃ wa, w.alloc (.cells p t) = wa := ⟨_, rfl⟩
  rw [hwa] at y1 k1 z1 ⊢
  have y2 := (below_alloc wa (.cells q u)).drew
  have k2 : Blk (wa.alloc (.cells q u)).drew wa.heap.size q u := (Blk.fresh wa q u).keep ((Below.refl _ _).drew)
  rw [z1] at k2
  exact ⟨below_then y1 y2 y1.size, k1.keep y2, k2⟩
theorem rdc_lit {w : World} {g : Nat} {cs : Array Value} {t : TypeId} (h : Blk w g cs t) : RdC w (some ⟨g, 0, none⟩) cs.size cs.toList := rdc_block (fr := (0, 0)) h
theorem balloc {w0 w : World} {o : Obj} (h : Below w0.heap.size w0 w) : Below w0.heap.size w0 (w.alloc o) := h.alloc h.size o
theorem bset {w0 w : World} {g j : Nat} {v : Value} (h : Below w0.heap.size w0 w) (hg : w0.heap.size ≤ g) : Below w0.heap.size w0 (w.setCell ⟨g, j, none⟩ v) := h.setCell (p := ⟨g, j, none⟩) hg v
/-- The cells that a call of Want reads. -/
theorem keep8 {w w1 : World} {g o p : Nat} {a b a0 a1 a2 a3 a4 a5 : Value} (h : w.cell? ⟨g, o, none⟩ = some a ∧ w.cell? ⟨g, o + 1, none⟩ = some b ∧ w.cell? ⟨p, 0, none⟩ = some a0 ∧ w.cell? ⟨p, 1, none⟩ = some a1 ∧ w.cell? ⟨p, 2, none⟩ = some a2 ∧ w.cell? ⟨p, 3, none⟩ = some a3 ∧ w.cell? ⟨p, 4, none⟩ = some a4 ∧ w.cell? ⟨p, 5, none⟩ = some a5) (hb : Below w.heap.size w w1) :
    w1.cell? ⟨g, o, none⟩ = some a ∧ w1.cell? ⟨g, o + 1, none⟩ = some b ∧ w1.cell? ⟨p, 0, none⟩ = some a0 ∧ w1.cell? ⟨p, 1, none⟩ = some a1 ∧ w1.cell? ⟨p, 2, none⟩ = some a2 ∧ w1.cell? ⟨p, 3, none⟩ = some a3 ∧ w1.cell? ⟨p, 4, none⟩ = some a4 ∧ w1.cell? ⟨p, 5, none⟩ = some a5 ∧ Below w.heap.size w w1 := by
  have mv : ∀ g j v, w.cell? ⟨g, j, none⟩ = some v → w1.cell? ⟨g, j, none⟩ = some v := fun g j v hv => (hb.cell (p := ⟨g, j, none⟩) (block_lt_of_cell hv)).trans hv
  obtain ⟨h1, h2, h3, h4, h5, h6, h7, h8⟩ := h
  exact ⟨mv _ _ _ h1, mv _ _ _ h2, mv _ _ _ h3, mv _ _ _ h4, mv _ _ _ h5, mv _ _ _ h6, mv _ _ _ h7, mv _ _ _ h8, hb⟩
theorem two_cells {w : World} {q : Nat} {a b : Value} {t : TypeId} (h : Blk w q #[a, b] t) : w.cell? ⟨q, 0, none⟩ = some a ∧ w.cell? ⟨q, 1, none⟩ = some b ∧ ∀ j, w.frozen? ⟨q, j, none⟩ = false := ⟨h.cell 0, h.cell 1, h.frozen⟩
/-- Want is asked a little later. -/
theorem want_at {w w5 W1 : World} {G pb c : Nat → Nat} {P : Nat → Pd} {K L bd bw r : Nat} {Fx : Nat → Prop} {A : Nat → Option Addr} {v : Value} {s : Ps} {B : Option Addr} (h : Duo w w5 G pb P K Fx A c bd bw) (hr : r < 2) (hs : PsAt w5 v s B) (hk : K + s.p.length + 1 ≤ L) (hL : L ≤ 4294967296) (hb : Below w5.heap.size w5 W1) :
    Calls Try.prog 34 #[.agg #[.slice (A r) (P r).n (c r), .bool (P r).armed], v] W1 (fun e w' => ∃ v' A6 c6, e = .returned (.tuple #[v', .agg #[.slice A6 ((P r).step s).n c6, .bool ((P r).step s).armed]]) ∧ TdF (New Fx W1 w') w' v' ((P r).told s) ∧ RAt w' A6 ((P r).step s) (New Fx W1 w') ∧ Below W1.heap.size W1 w' ∧ Below w5.heap.size w5 W1) := by
  have hlt : ∀ k, Fx k → k < W1.heap.size := fun k e => Nat.lt_of_lt_of_le (h.two.flt k e) hb.size
  refine (want_any ((h.ref r hr).below hb) hlt (h.at_ hr).lim (hs.below hb) hk hL (c r)).mono ?_
  rintro e w' ⟨v', A6, c6, he, h1, h2, h3⟩
  exact ⟨v', A6, c6, he, h1, h2, h3, hb⟩
/-- Both results lie in boxes that were made at whatever time. -/
theorem duw_of2 {w w5 W1 w6 we : World} {G pb c : Nat → Nat} {P : Nat → Pd} {K bd bw c6 ga gt gn : Nat} {Fx : Nat → Prop} {A : Nat → Option Addr} {R : Pd} {A6 : Option Addr} {sc tc : Array Value} {T : Td}
    (h : Duo w w5 G pb P K Fx A c bd bw) (hs : Blk w5 ga sc 33) (hb1 : Below w5.heap.size w5 W1) (ht : TdF (New Fx W1 w6) w6 (.agg tc) T) (hr : RAt w6 A6 R (New Fx W1 w6)) (hb6 : Below W1.heap.size W1 w6)
    (hgt : (w5.heap.size ≤ gt ∧ gt < W1.heap.size) ∨ w6.heap.size ≤ gt) (hgn : (w5.heap.size ≤ gn ∧ gn < W1.heap.size) ∨ w6.heap.size ≤ gn)
    (hf : Blk we gt tc 36 ∧ Blk we gn #[.slice A6 R.n c6, .bool R.armed] 48 ∧ Chg (fun k => k = gt ∨ k = gn) w6 we) :
    Duw w we G pb P K (New Fx W1 w6) A c bd bw R A6 c6 tc T ga gt gn sc := by
  obtain ⟨t2, n2, hc6⟩ := hf
  have s1 := hb1.size
  have s6 := hb6.size
  have hB : Below w5.heap.size w5 _ := (below_then hb1 hb6 s1).trans (hc6.below (by omega) (fun k e => by rcases e with e | e <;> omega))
  have hno : Chg (fun k => ¬ New Fx W1 w6 k) w6 _ := hc6.mono (fun k e e2 => by
    have h5 := h.two.flt
    rcases e2 with e2 | e2
    · have := h5 k e2
      rcases e with e | e <;> omega
    · rcases e with e | e <;> omega)
  obtain ⟨cs, hbw, _⟩ := h.wr
  have hlt := hbw.lt
  have hsz := hc6.size
  refine ⟨⟨(h.two.below hB).sub (fun k e => ?_), fun r hr => ((h.ref r hr).below hB).mono (fun k e => .inl e), h.dr.keep (fun cs hc => hc.keep hB), h.wr.keep (fun cs hc => hc.keep hB), ?_, h.lo⟩, hr.chg hno, ht.chg hno, hs.keep hB, t2, n2, by omega⟩
  · rcases e with e | e
    · exact .inl e
    · exact .inr ⟨by omega, by omega⟩
  · rintro (e | e)
    · exact h.off e
    · omega
/-- Two boxes that are made at once. -/
theorem two_allocs (w : World) (p q : Array Value) (t u : TypeId) (F : Nat → Prop) :
    Blk ((w.alloc (.cells p t)).alloc (.cells q u)) w.heap.size p t ∧ Blk ((w.alloc (.cells p t)).alloc (.cells q u)) (w.heap.size + 1) q u ∧ Chg F w ((w.alloc (.cells p t)).alloc (.cells q u)) := by
  have y1 := below_alloc w (.cells p t)
  have k1 : Blk (w.alloc (.cells p t)) w.heap.size p t := Blk.fresh w p t
  have z1 : (w.alloc (.cells p t)).heap.size = w.heap.size + 1 := by simp
  obtain ⟨wa, hwa⟩ : ∃ wa, w.alloc (.cells p t) = wa := ⟨_, rfl⟩
  rw [hwa] at y1 k1 z1 ⊢
  have y2 := below_alloc wa (.cells q u)
  have k2 : Blk (wa.alloc (.cells q u)) wa.heap.size q u := Blk.fresh wa q u
  rw [z1] at k2
  exact ⟨k1.keep y2, k2, chg_below (below_then y1 y2 y1.size) _⟩
/-- One box is written, the other made. -/
theorem set_alloc {w wx : World} {g : Nat} {cs cs' q : Array Value} {t u : TypeId} (h : Blk w g cs t) (hs : Blk w g cs t → Blk wx g cs' t ∧ Chg (fun k => k = g) w wx) (hz : wx.heap.size = w.heap.size) {F : Nat → Prop} (hF : F g) :
    Blk (wx.alloc (.cells q u)) g cs' t ∧ Blk (wx.alloc (.cells q u)) w.heap.size q u ∧ Chg F w (wx.alloc (.cells q u)) := by
  obtain ⟨h1, h2⟩ := hs h
  have y := below_alloc wx (.cells q u)
  have k : Blk (wx.alloc (.cells q u)) wx.heap.size q u := Blk.fresh wx q u
  rw [hz] at k
  exact ⟨h1.keep y, k, (h2.mono (fun k e => e ▸ hF)).then_ y⟩
theorem keep13 {w w1 : World} {bd r p q : Nat} {G : Nat → Nat} (hr : r < 2) {a0 a1 a2 a3 a4 a5 b0 b1 b2 b3 b4 b5 : Value} {t t' : TypeId} (hd : DRow w bd G) (h : Blk w p #[a0, a1, a2, a3, a4, a5] t) (h' : Blk w q #[b0, b1, b2, b3, b4, b5] t') (hb : Below w.heap.size w w1) :
    w1.cell? ⟨bd, r, none⟩ = some (.pointer (some ⟨G r, 0, none⟩)) ∧ w1.cell? ⟨p, 0, none⟩ = some a0 ∧ w1.cell? ⟨p, 1, none⟩ = some a1 ∧ w1.cell? ⟨p, 2, none⟩ = some a2 ∧ w1.cell? ⟨p, 3, none⟩ = some a3 ∧ w1.cell? ⟨p, 4, none⟩ = some a4 ∧ w1.cell? ⟨p, 5, none⟩ = some a5 ∧
    w1.cell? ⟨q, 0, none⟩ = some b0 ∧ w1.cell? ⟨q, 1, none⟩ = some b1 ∧ w1.cell? ⟨q, 2, none⟩ = some b2 ∧ w1.cell? ⟨q, 3, none⟩ = some b3 ∧ w1.cell? ⟨q, 4, none⟩ = some b4 ∧ w1.cell? ⟨q, 5, none⟩ = some b5 :=
  ⟨(hd.keep (fun cs hc => hc.keep hb)).cell r hr, boxes_at (h.keep hb) (h'.keep hb)⟩
theorem does_keep {w W : World} {G pb K : Nat} {P : Pd} {F Fr : Nat → Prop} {A : Option Addr} (h : Apt w W G pb P K F) (hr : RAt W A P Fr) (hF : ∀ k, Fr k → F k) (hK : K ≤ 2147483648) (c : Nat) :
    Calls Try.prog 24 #[.pointer (some ⟨G, 0, none⟩), .agg #[.slice A P.n c, .bool P.armed], .slice none 0 0] W fun e w' => e = .returned (.bool true) ∧ Below w.heap.size w w' ∧ Chg (fun x => ¬ F x) W w' ∧ ∃ ls, DAt W G pb ls P K ∧ Chg (fun x => ¬ (x < W.heap.size ∧ ¬ dF G pb ls P.n x)) W w' := by
  obtain ⟨ls, hd, h1, h2, h3⟩ := h
  have ha : Apt w W G pb P K (fun x => x < W.heap.size ∧ ¬ dF G pb ls P.n x) := ⟨ls, hd, h1, h2, fun k e => e⟩
  refine (does_any ha hr (fun k e => h3 k (hF k e)) (A2 := none) (n := 0) (ss := []) ⟨rfl, .inl rfl⟩ (by omega) (by rw [wrN_zero]; omega) c 0).mono ?_
  rintro e w' ⟨he, hc, hb⟩
  exact ⟨he, hb, hc.mono (fun k e e2 => e (h3 k e2)), ls, hd, hc⟩
/-- Blocks of other types are as they were. -/
theorem keep_blk {W w' : World} {G pb K : Nat} {P : Pd} {ls : Nat → Loc} (hd : DAt W G pb ls P K) (hc : Chg (fun x => ¬ (x < W.heap.size ∧ ¬ dF G pb ls P.n x)) W w') {q : Nat} {cs : Array Value} {t : TypeId} (hb : Blk W q cs t) (h1 : 83 ≠ t) (h2 : 87 ≠ t) (h3 : 116 ≠ t) (h4 : 5 ≠ t) : Blk w' q cs t :=
  hb.chg hc (fun e => e ⟨hb.lt, hd.off hb h1 h2 h3 h4⟩)
/-- What is left when the first disk was gone through. -/
structure Rest (w W : World) (G pb : Nat → Nat) (P : Nat → Pd) (K : Nat) (Fr : Nat → Prop) (A : Nat → Option Addr) (c : Nat → Nat) (bd bw : Nat) : Prop where
  apt : Apt w W (G 1) (pb 1) (P 1) K Fr
  ref : RAt W (A 1) (P 1) Fr
  dr : DRow W bd G
  wr : WRow W bw P A c
section
variable {w wr W : World} {G pb c : Nat → Nat} {P : Nat → Pd} {K bd bw : Nat} {Fr : Nat → Prop} {A : Nat → Option Addr}
theorem does_first (h : Duo w wr G pb P K Fr A c bd bw) (hb : Below wr.heap.size wr W) (hK : K ≤ 2147483648) :
    Calls Try.prog 24 #[.pointer (some ⟨G 0, 0, none⟩), .agg #[.slice (A 0) (P 0).n (c 0), .bool (P 0).armed], .slice none 0 0] W fun e w' => e = .returned (.bool true) ∧ Rest w w' G pb P K Fr A c bd bw := by
  have h9 := h.below hb
  obtain ⟨l1, d1, f1, ha⟩ := h9.two
  have hfr : ∀ x, Fr x → x < W.heap.size := h9.two.flt
  obtain ⟨l0, d0, b0, g0, a0⟩ := ha
  refine (does_keep (F := fun k => Fr k ∨ dF (G 1) (pb 1) l1 (P 1).n k) ⟨l0, d0, b0, g0, a0⟩ (h9.ref 0 (by omega)) (fun k e => .inl e) hK (c 0)).mono ?_
  rintro e w' ⟨he, hB, hcF, ls, hd, hc⟩
  refine ⟨he, ⟨l1, d1.chg hcF (fun x e e2 => e2 (.inr e)), hB, fun x e => (f1 x e).1, fun x e => ⟨Nat.lt_of_lt_of_le (hfr x e) hcF.size, fun e2 => (f1 x e2).2 e⟩⟩, (h9.ref 1 (by omega)).chg (hcF.mono (fun x e e2 => e (.inl e2))), ?_, ?_⟩
  · exact h9.dr.keep (fun cs hb => keep_blk hd hc hb (by decide) (by decide) (by decide) (by decide))
  · exact h9.wr.keep (fun cs hb => keep_blk hd hc hb (by decide) (by decide) (by decide) (by decide))
theorem does_second (h : Rest w wr G pb P K Fr A c bd bw) (hK : K ≤ 2147483648) :
    Calls Try.prog 24 #[.pointer (some ⟨G 1, 0, none⟩), .agg #[.slice (A 1) (P 1).n (c 1), .bool (P 1).armed], .slice none 0 0] wr fun e w' => e = .returned (.bool true) ∧ Below w.heap.size w w' ∧ DRow w' bd G ∧ WRow w' bw P A c := by
  refine (does_keep h.apt h.ref (fun k e => e) hK (c 1)).mono ?_
  rintro e w' ⟨he, hB, hcF, ls, hd, hc⟩
  exact ⟨he, hB, h.dr.keep (fun cs hb => keep_blk hd hc hb (by decide) (by decide) (by decide) (by decide)), h.wr.keep (fun cs hb => keep_blk hd hc hb (by decide) (by decide) (by decide) (by decide))⟩
/-- All the cells of the rows. -/
theorem rows6 (hd : DRow wr bd G) (hw : WRow wr bw P A c) (hb : Below wr.heap.size wr W) :
    W.cell? ⟨bd, 0, none⟩ = some (.pointer (some ⟨G 0, 0, none⟩)) ∧ W.cell? ⟨bd, 1, none⟩ = some (.pointer (some ⟨G 1, 0, none⟩)) ∧ W.cell? ⟨bw, 0, none⟩ = some (.slice (A 0) (P 0).n (c 0)) ∧ W.cell? ⟨bw, 1, none⟩ = some (.bool (P 0).armed) ∧ W.cell? ⟨bw, 2, none⟩ = some (.slice (A 1) (P 1).n (c 1)) ∧ W.cell? ⟨bw, 3, none⟩ = some (.bool (P 1).armed) := by
  have h1 := hd.keep (fun cs hc => hc.keep hb)
  have h2 := hw.keep (fun cs hc => hc.keep hb)
  exact ⟨h1.cell 0 (by omega), h1.cell 1 (by omega), (h2.cells 0 (by omega)).1, (h2.cells 0 (by omega)).2.1, (h2.cells 1 (by omega)).1, (h2.cells 1 (by omega)).2.1⟩
end
end Go.Proofs.Ytodaplkijdjbpaa
