/- Words and laws for slices: what is read, what is owned, append of whatever onto what is owned. No program in sight. -/
import Derived.WalkKit
import Derived.KernelRfl
import Derived.Lib.Hide
import Derived.Laws.Rows
import Derived.Laws.AppendOwn
import Derived.Laws.OwnMore
import Derived.Laws.BytesArg
namespace Go.Proofs.Ytodaplkijdjbpaa
open Go.RowKit
set_option linter.unusedVariables false
set_option linter.unusedSimpArgs false

/-- k cells behind A hold these values. -/
def RdC (w : World) (A : Option Addr) (k : Nat) (cs : List Value) : Prop :=
  cs.length = k ∧ ∀ j u, cs[j]? = some u → ∃ ad, A = some ad ∧ w.cell? (ad.add j) = some u
theorem add_plain (g o j : Nat) : (⟨g, o, none⟩ : Addr).add j = ⟨g, o + j, none⟩ := by
  unfold Addr.add
  split
  · simp_all
  · rfl
theorem RdC.nil (w : World) (A : Option Addr) : RdC w A 0 [] := ⟨rfl, fun j u h => by simp at h⟩
theorem RdC.below {w w1 : World} {A : Option Addr} {k : Nat} {cs : List Value} (h : RdC w A k cs) (hb : Below w.heap.size w w1) : RdC w1 A k cs :=
  ⟨h.1, fun j u hj => by
    obtain ⟨ad, e, hc⟩ := h.2 j u hj
    exact ⟨ad, e, (hb.cell (World.block_lt_of_cell? w _ hc)).trans hc⟩⟩
theorem below_then {B : Nat} {w w1 w2 : World} (h : Below B w w1) (k : Below w1.heap.size w1 w2) (hB : B ≤ w1.heap.size) : Below B w w2 := h.trans (k.mono hB)
theorem grown_of_below {w w1 : World} (h : Below w.heap.size w w1) (row : Option Nat) : w.grownBy w1 row := ⟨h.os, h.tape, h.output, h.size, fun i hi _ => h.block i hi⟩
theorem below_of_grown {w w1 : World} {row : Option Nat} (h : w.grownBy w1 row) {B : Nat} (hB : B ≤ w.heap.size) (hr : ∀ k, row = some k → B ≤ k) : Below B w w1 :=
  (Below.refl B w).grown h hB hr
theorem grown_trans {a b c : World} {row : Option Nat} (h : a.grownBy b row) (k : b.grownBy c row) : a.grownBy c row :=
  ⟨k.os.trans h.os, k.tape.trans h.tape, k.output.trans h.output, Nat.le_trans h.size k.size, fun i hi hr => (k.block i (Nat.lt_of_lt_of_le hi h.size) hr).trans (h.block i hi hr)⟩
theorem below_row {B : Nat} {a w : World} (h : Below B a w) {g : Nat} (hg : B ≤ g) (cs : Array Value) : Below B a (w.setRow g cs) :=
  ⟨h.os, h.tape, h.output, by rw [size_setRow]; exact h.size, fun k hk => (setRow_other w g k cs (by omega)).trans (h.block k hk)⟩
theorem own_reads {w : World} {B : Nat} {e : TypeId} {sz n : Nat} {v : Value} {xs : List Value} (h : w.ownsRow B e sz v n xs) : ∃ A c, v = .slice A n c ∧ n ≤ c ∧ RdC w A (n * sz) xs := by
  rcases h.2 with ⟨rfl, rfl⟩ | ⟨g, cap, cur, rfl, _, _, hc, _⟩
  · have hx : xs = [] := List.eq_nil_of_length_eq_zero (by simpa using h.1)
    subst hx
    exact ⟨none, 0, rfl, Nat.le_refl _, h.1, fun j u hj => by simp at hj⟩
  · exact ⟨_, _, rfl, hc, h.1, fun j u hj => ⟨_, rfl, h.cells (g := g) rfl j u hj⟩⟩
theorem own_below {w w1 : World} {B : Nat} {e : TypeId} {sz n : Nat} {v : Value} {xs : List Value} (h : w.ownsRow B e sz v n xs) (hb : Below w.heap.size w w1) : w1.ownsRow B e sz v n xs :=
  h.kept (grown_of_below hb none) (by cases v.ownBlock <;> simp)
theorem own_mono {w : World} {B B' : Nat} {e : TypeId} {sz n : Nat} {v : Value} {xs : List Value} (h : w.ownsRow B e sz v n xs) (hB : B' ≤ B) : w.ownsRow B' e sz v n xs := by
  refine ⟨h.1, ?_⟩
  rcases h.2 with h0 | ⟨g, cap, cur, a, b, c, d⟩
  · exact .inl h0
  · exact .inr ⟨g, cap, cur, a, by omega, c, d⟩
theorem own_base {w : World} {B : Nat} {e : TypeId} {sz n : Nat} {v : Value} {xs : List Value} (h : w.ownsRow B e sz v n xs) (k : Nat) (hk : v.ownBlock = some k) : B ≤ k := (h.lt k hk).1

/-- A block of which all is known reads so. -/
theorem rdc_block {w : World} {g : Nat} {cs : Array Value} {t : TypeId} {fr : Nat × Nat} (h : w.heap[g]? = some (.cells cs t fr)) : RdC w (some ⟨g, 0, none⟩) cs.size cs.toList :=
  ⟨by simp, fun j u hj => ⟨_, rfl, by rw [add_plain, Nat.zero_add, cell_of_row w g j cs t fr h]; simpa using hj⟩⟩
theorem growBy_le (need : Nat) : ∀ (r c : Nat), c < need → Builtin.growBy need r c ≤ need + (need + 768) / 4
  | 0, c, h => by simp only [Builtin.growBy]; omega
  | r + 1, c, h => by
    simp only [Builtin.growBy]
    split
    · omega
    · by_cases h2 : c + (c + 768) / 4 < need
      · exact growBy_le need r _ h2
      · have : Builtin.growBy need r (c + (c + 768) / 4) = c + (c + 768) / 4 := by
          cases r with
          | zero => rfl
          | succ r => simp only [Builtin.growBy]; rw [if_pos (by omega)]
        rw [this]; omega
theorem slicecap_le {need old : Nat} (h : old < need) : Builtin.nextslicecap need old ≤ need + need / 4 + 512 := by
  unfold Builtin.nextslicecap
  split
  · omega
  · split
    · omega
    · have := growBy_le need 4 old h; omega
/-- So many bytes a list that grows may take: half as many again as 2^47, and some. -/
theorem slice_fits {need old bytes : Nat} (h : old < need) (hb : need * bytes ≤ 214748364800000) (h1 : bytes ≤ 1048576) : Builtin.nextslicecap need old * bytes ≤ 281474976710656 := by
  refine Nat.le_trans (Nat.mul_le_mul_right bytes (slicecap_le h)) ?_
  have e : (need + need / 4 + 512) * bytes = need * bytes + need / 4 * bytes + 512 * bytes := by rw [Nat.add_mul, Nat.add_mul]
  have h4 : 4 * (need / 4 * bytes) ≤ need * bytes := by rw [← Nat.mul_assoc]; exact Nat.mul_le_mul_right _ (Nat.mul_div_le need 4)
  omega

section
variable {P : Program} (w : World)
theorem run_append_any (base : Nat) (t ty e : TypeId) (i : TypeInfo) (z : Value) (size bytes : Nat) (ht : P.underlying t = some (.slice e)) (hi : P.info? e = some i) (hz : i.zero = some z)
    (hsize : i.size = size) (hby : i.bytes = bytes) (hzs : z.cells.size = size) (hsz : 0 < size)
    (v : Value) (n : Nat) (xs : List Value) (hown : w.ownsRow base e size v n xs)
    (A : Option Addr) (m c : Nat) (news : List Value) (hr : RdC w A (m * size) news) (h1 : ∀ u ∈ news, u.oneCell' = true)
    (hb0 : 0 < bytes) (hb1 : bytes ≤ 1048576) (hbytes : (n + m) * bytes ≤ 214748364800000) (hbase : base ≤ w.heap.size) :
    ∃ A' c' w', (Builtin.append_ #[t, t] ty #[v, .slice A m c]).run P w = .ok (.slice A' (n + m) c') w' ∧ w'.ownsRow base e size (.slice A' (n + m) c') (n + m) (xs ++ news) ∧ w.grownBy w' v.ownBlock ∧
      (Value.ownBlock (.slice A' (n + m) c') = v.ownBlock ∨ ∃ b, Value.ownBlock (.slice A' (n + m) c') = some b ∧ w.heap.size ≤ b) ∧ (m ≠ 0 ∨ v ≠ .slice none 0 0 → A' ≠ none) := by
  have hnm : n + m ≤ 214748364800000 := Nat.le_trans (Nat.le_mul_of_pos_right _ hb0) hbytes
  have h63 : n + m ≤ maxLen := by simp only [maxLen]; omega
  obtain ⟨hl, hcells⟩ := hr
  by_cases hm : m = 0
  · subst hm
    have hn : news = [] := List.eq_nil_of_length_eq_zero (by simpa using hl)
    subst hn
    obtain ⟨A0, c0, rfl, hc0, -⟩ := own_reads hown
    subst hsize
    refine ⟨A0, c0, w, ?_, by simpa using hown, ⟨rfl, rfl, rfl, Nat.le_refl _, fun _ _ _ => rfl⟩, .inl rfl, ?_⟩
    · have hf : (Builtin.firstCells i.size 0 (.slice A c 0)).run P w = .ok #[] w := by cases A <;> simp [Builtin.firstCells, loadCells, loadCellsFrom]
      cases A <;> cases A0 <;> simp [Builtin.append_, run_underlying ht, sizeOf, typeInfo, hi, Builtin.lenOf, Builtin.firstCells, loadCells, loadCellsFrom, hc0, storeCells]
    · intro h
      rcases h with h | h
      · exact absurd rfl h
      · rintro rfl
        rcases hown.2 with ⟨h2, _⟩ | ⟨g, cap, cur, h2, _⟩
        · exact h h2
        · simp at h2
  · obtain ⟨ad, rfl⟩ : ∃ ad, A = some ad := by
      have h0 : 0 < news.length := by rw [hl]; exact Nat.mul_pos (by omega) hsz
      obtain ⟨ad, e, _⟩ := hcells 0 _ (List.getElem?_eq_getElem h0)
      exact ⟨ad, e⟩
    have hcells' : ∀ j u, news[j]? = some u → w.cell? (ad.add j) = some u := fun j u hj => by
      obtain ⟨ad', e, hc⟩ := hcells j u hj
      rw [Option.some.inj e]; exact hc
    subst hsize
    subst hby
    have hsmall : n + m ≤ 9223372036854775807 := by omega
    have hlen : (xs ++ news).length = (n + m) * i.size := by rw [List.length_append, hown.1, hl, Nat.add_mul]
    have grown : ∀ (old : Nat), old < n + m → ∀ (row : Option Nat),
        (w.drew.alloc (.cells (xs.toArray ++ news.toArray ++ Builtin.zeroCells z.cells (grownCap w (n + m) old e - (n + m))) e)).ownsRow base e i.size
          (.slice (some ⟨w.heap.size, 0, none⟩) (n + m) (grownCap w (n + m) old e)) (n + m) (xs ++ news) ∧
        w.grownBy (w.drew.alloc (.cells (xs.toArray ++ news.toArray ++ Builtin.zeroCells z.cells (grownCap w (n + m) old e - (n + m))) e)) row := by
      intro old ho row
      have hge := grownCap_ge w (n + m) old e
      have hcm : grownCap w (n + m) old e ≤ maxLen := grownCap_le_maxLen w (n + m) old e h63
      refine ⟨⟨hlen, .inr ⟨w.heap.size, _, _, rfl, hbase, heap_alloc_new w.drew _, hge, hcm, ?_, ?_⟩⟩, ⟨rfl, rfl, rfl, by simp, fun k hk _ => Below.heap_alloc w.drew _ k hk⟩⟩
      · simp only [Array.size_append, List.size_toArray, size_zeroCells, hzs, hown.1, hl, ← Nat.add_mul]
        congr 1
        omega
      · simp only [Array.toList_append, List.append_assoc]
        rw [← List.append_assoc, ← hlen]
        exact List.take_left
    rcases hown.2 with ⟨rfl, rfl⟩ | ⟨g, cap, cur, rfl, hbg, hg, hnc, hcm, hcs, htake⟩
    · have hx : xs = [] := List.eq_nil_of_length_eq_zero (by simpa using hown.1)
      subst hx
      have hr := run_append_nil (P := P) w t ty e i z ht hi hz ad m c news hl hcells' (by omega) (by omega) (by have hb := hbytes; simp only [Nat.zero_add] at hb; omega)
      have hgr := grown 0 (by omega) (Value.ownBlock (.slice none 0 0))
      simp only [Nat.zero_add, List.nil_append, Array.empty_append] at hgr ⊢
      exact ⟨_, _, _, hr, hgr.1, hgr.2, .inr ⟨_, rfl, Nat.le_refl _⟩, fun _ => by simp⟩
    · by_cases hroom : n + m ≤ cap
      · have hfit : n * i.size + news.length ≤ cur.size := by rw [hl, hcs, ← Nat.add_mul]; exact Nat.mul_le_mul_right _ hroom
        have hr := run_append_room (P := P) w t ty e i ht hi g n cap cur hg ad m c news hl hcells' h1 hroom hfit
        refine ⟨_, _, _, hr, ⟨hlen, .inr ⟨g, cap, _, rfl, hbg, setRow_heap w g cur _ e _ hg, hroom, hcm, ?_, ?_⟩⟩, ⟨rfl, rfl, rfl, by simp, fun k _ hk => setRow_other w g k _ (fun e => hk (by simp [Value.ownBlock, e]))⟩, .inl rfl, fun _ => by simp⟩
        · simp only [List.size_toArray, List.length_append, List.length_take, List.length_drop, Array.length_toList]
          omega
        · rw [htake, ← hlen]
          exact List.take_left
      · have holds : ∀ j u, xs[j]? = some u → w.cell? ((⟨g, 0, none⟩ : Addr).add j) = some u := hown.cells (g := g) rfl
        have hr := run_append_grow (P := P) w t ty e i z ht hi hz ⟨g, 0, none⟩ n cap xs hown.1 holds ad m c news hl hcells' (by omega) (by omega) (slice_fits (by omega) hbytes hb1)
        have hgr := grown cap (by omega) (Value.ownBlock (.slice (some ⟨g, 0, none⟩) n cap))
        exact ⟨_, _, _, hr, hgr.1, hgr.2, .inr ⟨_, rfl, Nat.le_refl _⟩, fun _ => by simp⟩
theorem step_append_any {ops : Array Oper} {o : Oper} {a : Act} {K : Act → World → Prop} {Q : Exit → Act → World → Prop} {E : Prop} (hgd : o.guard = none) (s x : Operand) (t : TypeId)
    (ho : o.op = .call { callee := .builtin .append, args := #[s, x], argTypes := #[t, t] })
    (base : Nat) (e : TypeId) (z : Value) (size bytes : Nat) (ht : P.underlying t = some (.slice e)) (hinfo : (P.info? e).map (fun i => (i.zero, i.size, i.bytes)) = some (some z, size, bytes)) (hzs : z.cells.size = size) (hsz : 0 < size)
    (v : Value) (n : Nat) (xs : List Value) (hs : a.eval s = v) (hown : w.ownsRow base e size v n xs)
    (A : Option Addr) (m c : Nat) (news : List Value) (hx : a.eval x = .slice A m c) (hr : RdC w A (m * size) news) (h1 : ∀ u ∈ news, u.oneCell' = true)
    (hb0 : 0 < bytes) (hb1 : bytes ≤ 1048576) (hbytes : (n + m) * bytes ≤ 214748364800000) (hbase : base ≤ w.heap.size)
    (h : ∀ A' c' w', w'.ownsRow base e size (.slice A' (n + m) c') (n + m) (xs ++ news) → w.grownBy w' v.ownBlock →
      (Value.ownBlock (.slice A' (n + m) c') = v.ownBlock ∨ ∃ b, Value.ownBlock (.slice A' (n + m) c') = some b ∧ w.heap.size ≤ b) → (m ≠ 0 ∨ v ≠ .slice none 0 0 → A' ≠ none) →
      K (a.put o.dst (.slice A' (n + m) c')) w') : if Region.wanted o (yielded ops a.tmps) = true then Oper.wp P o a w K Q else E := by
  have hw : Region.wanted o (yielded ops a.tmps) = true := by simp [Region.wanted, hgd]
  rw [if_pos hw]
  obtain ⟨i, hi, hzz⟩ := Option.map_eq_some_iff.1 hinfo
  simp only [Prod.mk.injEq] at hzz
  obtain ⟨hz, hsize, hby⟩ := hzz
  obtain ⟨A', c', w', hrun, h2, h3, h4, h5⟩ := run_append_any (P := P) w base t o.type e i z size bytes ht hi hz hsize hby hzs hsz v n xs hown A m c news hr h1 hb0 hb1 hbytes hbase
  unfold Oper.wp execOp
  simp only [ho, resolve, invoke, builtin, Sem.run_bind, Sem.run_pure, Result.andThen_ok, List.map_toArray, List.map_cons, List.map_nil, hs, hx, hrun]
  exact h A' c' w' h2 h3 h4 h5
theorem wpl_append {ops : Array Oper} {rest : List Oper} {o : Oper} {a : Act} {Q : Exit → Act → World → Prop} (hgd : o.guard = none) (s x : Operand) (t : TypeId)
    (ho : o.op = .call { callee := .builtin .append, args := #[s, x], argTypes := #[t, t] })
    (base : Nat) (e : TypeId) (z : Value) (size bytes : Nat) (ht : P.underlying t = some (.slice e)) (hinfo : (P.info? e).map (fun i => (i.zero, i.size, i.bytes)) = some (some z, size, bytes)) (hzs : z.cells.size = size) (hsz : 0 < size)
    (v : Value) (n : Nat) (xs : List Value) (hs : a.eval s = v) (hown : w.ownsRow base e size v n xs)
    (A : Option Addr) (m c : Nat) (news : List Value) (hx : a.eval x = .slice A m c) (hr : RdC w A (m * size) news) (h1 : ∀ u ∈ news, u.oneCell' = true)
    (hb0 : 0 < bytes) (hb1 : bytes ≤ 1048576) (hbytes : (n + m) * bytes ≤ 214748364800000) (hbase : base ≤ w.heap.size)
    (h : ∀ A' c' w', w'.ownsRow base e size (.slice A' (n + m) c') (n + m) (xs ++ news) → w.grownBy w' v.ownBlock →
      (Value.ownBlock (.slice A' (n + m) c') = v.ownBlock ∨ ∃ b, Value.ownBlock (.slice A' (n + m) c') = some b ∧ w.heap.size ≤ b) → (m ≠ 0 ∨ v ≠ .slice none 0 0 → A' ≠ none) →
      wpList P ops Q rest (a.put o.dst (.slice A' (n + m) c')) w') : wpList P ops Q (o :: rest) a w := by
  obtain ⟨i, hi, hzz⟩ := Option.map_eq_some_iff.1 hinfo
  simp only [Prod.mk.injEq] at hzz
  obtain ⟨hz, hsize, hby⟩ := hzz
  refine wpList_plain hgd fun K hK => ?_
  obtain ⟨A', c', w', hrun, h2, h3, h4, h5⟩ := run_append_any (P := P) w base t o.type e i z size bytes ht hi hz hsize hby hzs hsz v n xs hown A m c news hr h1 hb0 hb1 hbytes hbase
  unfold Oper.wp execOp
  simp only [ho, resolve, invoke, builtin, Sem.run_bind, Sem.run_pure, Result.andThen_ok, List.map_toArray, List.map_cons, List.map_nil, hs, hx, hrun]
  exact hK _ _ (h A' c' w' h2 h3 h4 h5)
end

/-- The n cells behind A hold these bytes. -/
def Bytes (w : World) (A : Option Addr) (n : Nat) (bs : List UInt8) : Prop :=
  bs.length = n ∧ n ≤ 281474976710656 ∧ (n = 0 ∨ ∃ b o, A = some ⟨b, o, none⟩ ∧ ∀ j, j < n → w.cell? ⟨b, o + j, none⟩ = some (.int .u8 (((bs.getD j 0).toNat : Nat) : Int)))
theorem Bytes.at_ {w : World} {A : Option Addr} {n : Nat} {bs : List UInt8} (h : Bytes w A n bs) (k : Nat) (hk : k < n) :
    ∃ b o m, A = some ⟨b, o, none⟩ ∧ w.cell? ⟨b, o + k, none⟩ = some (.int .u8 m) ∧ m = (((bs.getD k 0).toNat : Nat) : Int) := by
  rcases h.2.2 with h0 | ⟨b, o, hA, hc⟩
  · omega
  · exact ⟨b, o, _, hA, hc k hk, rfl⟩
theorem Bytes.below {w w1 : World} {A : Option Addr} {n : Nat} {bs : List UInt8} (h : Bytes w A n bs) (hb : Below w.heap.size w w1) : Bytes w1 A n bs := by
  refine ⟨h.1, h.2.1, ?_⟩
  rcases h.2.2 with h0 | ⟨b, o, hA, hc⟩
  · exact .inl h0
  · exact .inr ⟨b, o, hA, fun j hj => (hb.cell (p := ⟨b, o + j, none⟩) (block_lt_of_cell (hc j hj))).trans (hc j hj)⟩

theorem Bytes.same {w w1 : World} {b o : Nat} {n : Nat} {bs : List UInt8} (h : Bytes w (some ⟨b, o, none⟩) n bs) (hb : Below w.heap.size w w1) (j : Nat) (hj : j < n) : w.cell? ⟨b, o + j, none⟩ = w1.cell? ⟨b, o + j, none⟩ := by
  rcases h.2.2 with h0 | ⟨b', o', hA, hc⟩
  · omega
  · injection hA with hA
    injection hA with h1 h2
    subst h1; subst h2
    exact (hb.cell (p := ⟨b, o + j, none⟩) (block_lt_of_cell (hc j hj))).symm
/-- A byte's value; a list's. -/
def bvals (bs : List UInt8) : List Value := bs.map fun b => Value.int .u8 ((b.toNat : Nat) : Int)
theorem bvals_length (bs : List UInt8) : (bvals bs).length = bs.length := by simp [bvals]
theorem bvals_append (as bs : List UInt8) : bvals (as ++ bs) = bvals as ++ bvals bs := by simp [bvals]
theorem bvals_one (bs : List UInt8) : ∀ u ∈ bvals bs, u.oneCell' = true := by
  intro u hu
  obtain ⟨b, _, rfl⟩ := List.mem_map.1 hu
  rfl
theorem bvals_at (bs : List UInt8) (j : Nat) (h : j < bs.length) : (bvals bs)[j]? = some (.int .u8 (((bs.getD j 0).toNat : Nat) : Int)) := by
  simp [bvals, List.getD_eq_getElem?_getD, h]
theorem Bytes.rdc {w : World} {A : Option Addr} {n : Nat} {bs : List UInt8} (h : Bytes w A n bs) : RdC w A (n * 1) (bvals bs) := by
  refine ⟨by rw [bvals_length, h.1, Nat.mul_one], fun j u hj => ?_⟩
  have hlt : j < bs.length := by have := (List.getElem?_eq_some_iff.1 hj).1; rwa [bvals_length] at this
  rw [bvals_at bs j hlt] at hj
  rcases h.2.2 with h0 | ⟨b, o, hA, hc⟩
  · have := h.1; omega
  · exact ⟨_, hA, by rw [add_plain, hc j (by rw [← h.1]; exact hlt)]; exact hj⟩
theorem own_bytes {w : World} {B : Nat} {e : TypeId} {n : Nat} {v : Value} {bs : List UInt8} (h : w.ownsRow B e 1 v n (bvals bs)) (hn : n ≤ 281474976710656) : ∃ A c, v = .slice A n c ∧ Bytes w A n bs := by
  have hl : bs.length = n := by have := h.1; rwa [bvals_length, Nat.mul_one] at this
  rcases h.2 with ⟨rfl, rfl⟩ | ⟨g, cap, cur, rfl, _⟩
  · exact ⟨none, 0, rfl, hl, hn, .inl rfl⟩
  · refine ⟨_, cap, rfl, hl, hn, .inr ⟨g, 0, rfl, fun j hj => ?_⟩⟩
    have := h.cells (g := g) rfl j _ (bvals_at bs j (by omega))
    rwa [add_plain] at this
theorem own_bytes' {w : World} {B : Nat} {e : TypeId} {n c : Nat} {A : Option Addr} {bs : List UInt8} (h : w.ownsRow B e 1 (.slice A n c) n (bvals bs)) (hn : n ≤ 281474976710656) : Bytes w A n bs := by
  obtain ⟨A', c', e, hb⟩ := own_bytes h hn
  injection e with e1 e2 e3
  subst e1
  exact hb
theorem Bytes.take {w : World} {A : Option Addr} {n : Nat} {bs : List UInt8} (h : Bytes w A n bs) (k : Nat) (hk : k ≤ n) : Bytes w A k (bs.take k) := by
  refine ⟨by rw [List.length_take, h.1]; omega, by have := h.2.1; omega, ?_⟩
  rcases h.2.2 with h0 | ⟨b, o, hA, hc⟩
  · exact .inl (by omega)
  · refine .inr ⟨b, o, hA, fun j hj => ?_⟩
    rw [hc j (by omega)]
    simp [List.getD_eq_getElem?_getD, hj]
/-- Bytes as a string. -/
def strB (bs : List UInt8) : ByteArray := ⟨bs.toArray⟩
theorem strB_toList (bs : List UInt8) : (strB bs).toList = bs := by rw [ByteArray.toList_eq]; simp [strB]
theorem strB_size (bs : List UInt8) : (strB bs).size = bs.length := by simp [strB, ByteArray.size]
theorem run_bytes_string {P : Program} {w : World} {A : Option Addr} {n : Nat} {bs : List UInt8} (h : Bytes w A n bs) (c : Nat) (src e dst : TypeId) (hs : P.underlying src = some (.slice e)) (he : P.underlying e = some (.int .u8)) (hd : P.underlying dst = some .string) :
    (convert src dst (.slice A n c)).run P w = .ok (.string (strB bs)) w := by
  have hmap : (bs.map fun b => UInt8.ofNat (((b.toNat : Nat) : Int)).toNat) = bs := by
    conv => rhs; rw [← List.map_id bs]
    apply List.map_congr_left
    intro b _
    simp
  rw [run_convert_bytes_string w src dst e A n c hs he hd]
  cases A with
  | none =>
    have h0 : bs = [] := by
      rcases h.2.2 with h0 | ⟨b, o, hA, _⟩
      · exact List.eq_nil_of_length_eq_zero (h.1.trans h0)
      · cases hA
    subst h0
    simp [Conv.bytesToString, strB, ByteArray.empty, ByteArray.emptyWithCapacity]
    rfl
  | some a =>
    have hl : (loadCells a n).run P w = .ok ((bs.map fun b => ((b.toNat : Nat) : Int)).map (Value.int .u8)).toArray w := by
      have := run_loadCells_list (P := P) w a (bvals bs) (fun j v hj => by
        obtain ⟨ad, e, hc⟩ := h.rdc.2 j v hj
        rw [Option.some.inj e]; exact hc)
      rw [bvals_length, h.1] at this
      rw [this]
      simp [bvals, Function.comp_def]
    rw [run_bytesToString w a n c _ hl, foldl_push_bytes]
    rw [List.map_map]
    simp only [Function.comp_def, hmap]
    simp [strB, ByteArray.empty, ByteArray.emptyWithCapacity]
    rfl
end Go.Proofs.Ytodaplkijdjbpaa
