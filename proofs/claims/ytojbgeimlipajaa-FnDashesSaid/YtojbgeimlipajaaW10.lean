/- Walks: the path that is drawn. -/
import Derived.Test.YtojbgeimlipajaaW9
import Derived.Test.YtojbgeimlipajaaD14
namespace Go.Proofs.Ytojbgeimlipajaa
open Go.RowKit Fl

theorem IsRow.below {k : IntKind} {w w' : World} {a : Option Addr} {len cap : Nat} {zs : List Int} (h : IsRow k w a len cap zs) (hb : Below w.heap.size w w') : IsRow k w' a len cap zs := by
  rcases h with h | ⟨x, h1, h2, h3, h4, h5, h6⟩
  · exact .inl h
  · refine .inr ⟨x, h1, h2, h3, h4, fun i hi => ?_, h6⟩
    have hc := h5 i hi
    obtain ⟨o, ho, _⟩ := cells_of_cell hc
    exact (hb.cell (p := x.add i) (Array.getElem?_eq_some_iff.1 ho).1).trans hc

def Pick (w : World) (p : Nat) (a : Option Addr) (len cap : Nat) (t n : Nat) (e : Ending) (w' : World) : Prop :=
  ∃ (r : Nat) (s' : Int), r < n ∧ e = .returned (.int .i64 (r : Int)) ∧ Src w' p a len cap ((t + 1 : Nat) : Int) s' ∧ w.grownBy w' (some p)

-- pick (12)
theorem pick_any (p : Nat) (a : Option Addr) (len cap t : Nat) (s : Int) (zs : List Int) (w : World) (h : IsRow .u8 w a len cap zs) (ht : t ≤ 1000) (hs : Src w p a len cap t s) (n : Nat) (hn : 2 ≤ n) (hn2 : n ≤ 200) :
    Calls Try.prog 12 #[.pointer (some ⟨p, 0, none⟩), .int .i64 (n : Int)] w (Pick w p a len cap t n) := by
  have H := next_any p a len cap t s zs w h ht hs
  have n2 : (2 : Int) ≤ (n : Int) := by omega
  have n1 : ¬ (n : Int) ≤ 1 := by omega
  have n3 : (n : Int) ≤ 200 := by omega
  clear h hs
  go_enter Try.func12, Try.ntmps12
  go_wp2_with (go_at_call 27; (with_reducible refine H.mono ?_); rintro e w' ⟨x, s', hx, rfl, hs', hg'⟩; have x0 : (0 : Int) ≤ (x : Int) := (by omega); have x1 : (x : Int) ≤ 255 := (by omega))
  have zm0 : 0 ≤ (x : Int) % (n : Int) := Int.emod_nonneg _ (by omega)
  have zm1 : (x : Int) % (n : Int) < n := Int.emod_lt_of_pos _ (by omega)
  go_ret
  exact ⟨((x : Int) % (n : Int)).toNat, s', by omega, by rw [Int.toNat_of_nonneg zm0]; rfl, by simpa using hs', hg'⟩
theorem pick7 (p : Nat) (a : Option Addr) (len cap t : Nat) (s : Int) (zs : List Int) (w : World) (h : IsRow .u8 w a len cap zs) (ht : t ≤ 1000) (hs : Src w p a len cap t s) :
    Calls Try.prog 12 #[.pointer (some ⟨p, 0, none⟩), .int .i64 7] w (Pick w p a len cap t 7) := pick_any p a len cap t s zs w h ht hs 7 (by omega) (by omega)
theorem pick9 (p : Nat) (a : Option Addr) (len cap t : Nat) (s : Int) (zs : List Int) (w : World) (h : IsRow .u8 w a len cap zs) (ht : t ≤ 1000) (hs : Src w p a len cap t s) :
    Calls Try.prog 12 #[.pointer (some ⟨p, 0, none⟩), .int .i64 9] w (Pick w p a len cap t 9) := pick_any p a len cap t s zs w h ht hs 9 (by omega) (by omega)

theorem info30 : (Try.prog.info? 30).map (fun i => (i.zero, i.size, i.bytes)) = some (some (.complex .f32 0 0), 1, 8) := by kernel_rfl
def rowZ (xs : List (Nat × Nat)) (k : Nat) : List Value := (List.range k).map (fun j => cx (zW (xs.take j)))
theorem rowZ_get (xs : List (Nat × Nat)) (n k : Nat) (h : k < n) : (rowZ xs n)[k]? = some (cx (zW (xs.take k))) := by simp [rowZ, h]
theorem rowZ_succ (xs : List (Nat × Nat)) (ab : Nat × Nat) : rowZ (xs ++ [ab]) (xs.length + 1) = rowZ xs xs.length ++ [cx (zW xs)] := by
  unfold rowZ
  rw [List.range_succ, List.map_append]
  congr 1
  · refine List.map_congr_left fun j hj => ?_
    have : j < xs.length := by simpa using hj
    rw [List.take_append_of_le_length (by omega)]
  · simp

def Drawn (w : World) (n : Nat) (e : Ending) (w' : World) : Prop :=
  ∃ xs g c, PicksOk xs ∧ xs.length = n ∧ e = .returned (.slice (some ⟨g, 0, none⟩) n c) ∧ Below w.heap.size w w' ∧ w.heap.size ≤ g ∧ g < w'.heap.size ∧ ∀ k, k < n → w'.cell? ⟨g, 0 + k, none⟩ = some (cx (zW (xs.take k)))

theorem csum {a b c d re im : Nat} (h1 : floatBits .add .f32 a c = some re) (h2 : floatBits .add .f32 b d = some im) : ∀ t w, (binOp .add t (.complex .f32 a b) (.complex .f32 c d)).run Try.prog w = .ok (.complex .f32 re im) w :=
  fun t w => run_complex_sum w .add (.inl rfl) t .f32 a b c d re im (by simp [cSumBits, h1, h2])

structure DrawRel (w : World) (a : Option Addr) (len cap n : Nat) (xs : List (Nat × Nat)) (v1 v6 v7 : Value) (wr : World) : Prop where
  ok : PicksOk xs
  le : xs.length ≤ n
  c : v1 = .int .i64 ((n : Int) - xs.length)
  z : v7 = .complex .f32 (zW xs).1 (zW xs).2
  own : wr.ownsRow (w.heap.size + 1) 30 1 v6 xs.length (rowZ xs xs.length)
  nn : v6 ≠ .slice none 0 0
  bel : Below w.heap.size w wr
  lt : w.heap.size < wr.heap.size
  src : ∃ s, Src wr w.heap.size a len cap ((2 * xs.length : Nat) : Int) s

theorem Src.kept {w1 w2 : World} {o : Obj} {row : Option Nat} {p : Nat} {a : Option Addr} {len cap : Nat} {t s : Int} (h : Src w1 p a len cap t s) (hg : (w1.alloc o).grownBy w2 row) (hp : p < w1.heap.size) (hne : row ≠ some p) : Src w2 p a len cap t s := by
  unfold Src at *
  rw [hg.block p (by simp; omega) (fun e => hne e.symm), heap_alloc_old _ _ hp]
  exact h
-- B10Path (5)
theorem path_any (a : Option Addr) (len cap : Nat) (zs : List Int) (n : Nat) (w : World) (h : IsRow .u8 w a len cap zs) (hn : n ≤ 7) :
    Calls Try.prog 5 #[.slice a len cap, .int .i64 (n : Int)] w (Drawn w n) := by
  obtain ⟨i0, hi, hz0, hz1, hz2⟩ := info_parts info30
  have n0 : (n : Int) ≤ 7 := by omega
  have n1 : (0 : Int) ≤ (n : Int) := by omega
  go_enter Try.func5, Try.ntmps5
  go_wp2_with (go_at_call 11; (with_reducible refine (from_any _ _ _ _).mono ?_); rintro e w' ⟨rfl, rfl⟩)
  go_loopw [1, 6, 7] (fun v1 v6 v7 wr => ∃ xs, DrawRel w a len cap n xs v1 v6 v7 wr) (fun v1 _ _ _ => (intOf v1).toNat)
  case atStart =>
    refine ⟨[], fun x hx => absurd hx (by simp), Nat.zero_le _, by simp, rfl, ⟨rfl, .inr ⟨w.heap.size + 1, 0, #[], rfl, Nat.le_refl _, ?_, Nat.le_refl _, by decide, rfl, rfl⟩⟩, by simp, ((Below.refl _ w).alloc (Nat.le_refl _) _).alloc (by simp) _, by simp; omega, 0, ?_⟩
    · have := World.alloc_heap_new (w.alloc (.cells #[.slice a len cap, .int .i64 0, .int .u64 0] 52)) (.cells #[] 30)
      simpa using this
    · have h1 := World.alloc_heap_new w (.cells #[.slice a len cap, .int .i64 0, .int .u64 0] 52)
      unfold Src
      rw [heap_alloc_old _ _ (by simp)]
      simpa using h1
  case round =>
    obtain ⟨xs, hok, hle, rfl, rfl, hown, hnn, hB, hlt, s, hsrc⟩ := hrel
    by_cases hm : xs.length < n
    · have m0 : (0 : Int) < (n : Int) - xs.length := by omega
      have m1 : (n : Int) - xs.length ≤ 7 := by omega
      have hz := zW_is xs hok (by omega)
      have hmb := m_bd xs hok
      have hrow := h
      clear h
      go_wp2_with (first
        | (at_builtin; refine wpList_append_own _ rfl _ _ 24 rfl (w.heap.size + 1) 30 i0 (.complex .f32 0 0) 1 8 Try.underlying24 hi hz0 hz1 hz2 rfl (by decide) _ _ _ rfl (hown.alloc _) ⟨wr.heap.size, 0, none⟩ 1 1 [cx (zW xs)] rfl rfl (cell_one_new _ _ _) (fun u hu => by simp at hu; subst hu; rfl) (by unfold maxLen; omega) (by omega) (by simp; omega) ?_; intro v' w2 hown' hgrow hnil; have hlt5 := hown.lt; have hB2 := (hB.alloc hB.size _).grown hgrow (by have := hB.size; simp; omega) (fun k e => by have := (hlt5 k e).1; omega); have hsrc2 := hsrc.kept hgrow hlt (fun e => by have := (hlt5 _ e).1; omega); have hrow2 := hrow.below hB2)
        | (go_at_call 12; (with_reducible refine (pick7 _ _ _ _ (2 * xs.length) _ _ _ hrow2 (by omega) hsrc2).mono ?_); rintro e w3 ⟨r7, s3, hr7, rfl, hsrc3, hgrow3⟩; have q7 := rop (q4_ok (2 + (r7 : Int)) (by omega)).1; have r70 : (0 : Int) ≤ (r7 : Int) := (by omega); have r71 : (r7 : Int) < 7 := (by omega); have hB3 := hB2.grown hgrow3 hB2.size (fun k e => by cases e; exact Nat.le_refl _); have hrow3 := hrow.below hB3)
        | (go_at_call 12; (with_reducible refine (pick9 _ _ _ _ (2 * xs.length + 1) _ _ _ hrow3 (by omega) hsrc3).mono ?_); rintro e w4 ⟨r9, s4, hr9, rfl, hsrc4, hgrow4⟩; have q9 := rop (q4_ok ((r9 : Int) - 4) (by omega)).1; have r90 : (0 : Int) ≤ (r9 : Int) := (by omega); have r91 : (r9 : Int) < 9 := (by omega); have hst := step_ok (ab := (r7, r9)) hz.1 hz.2 (by omega) (by omega) hr7 hr9; have hcs := csum hst.1 hst.2.1; have hB4 := hB3.grown hgrow4 hB3.size (fun k e => by cases e; exact Nat.le_refl _)))
      have hne : v'.ownBlock ≠ some w.heap.size := fun e => by have := (hown'.lt _ e).1; omega
      have hsz : w.heap.size < w4.heap.size := by
        have h1 := hgrow.size
        have h2 := hgrow3.size
        have h3 := hgrow4.size
        simp at h1
        omega
      have hown4 := (hown'.kept hgrow3 (.inr hne)).kept hgrow4 (.inr hne)
      refine ⟨⟨xs ++ [(r7, r9)], ?_, by simp; omega, ?_, ?_, ?_, ?_, hB4, hsz, s4, ?_⟩, ?_⟩
      · intro x hx
        rcases List.mem_append.1 hx with hx | hx
        · exact hok x hx
        · obtain rfl := List.mem_singleton.1 hx
          exact ⟨hr7, hr9⟩
      · simp; omega
      · rw [zW_snoc]
      · rw [List.length_append, List.length_singleton, rowZ_succ]
        exact hown4
      · rw [ne_eq, hnil]; simp
      · rw [List.length_append, List.length_singleton, Nat.mul_add]
        exact hsrc4
      · simp [intOf]; omega
    · obtain rfl : xs.length = n := by omega
      have hcells := fun g => hown.cells (g := g)
      have hlt5 := hown.lt
      rcases hown.2 with ⟨h', _⟩ | ⟨g, c, cur, rfl, hgH, hgh, hcap, hcapm, _, _⟩
      · exact absurd h' hnn
      have hg := (hlt5 g rfl).2
      have hlc : ∀ j, j < xs.length → wr.cell? ⟨g, 0 + j, none⟩ = some (cx (zW (xs.take j))) := fun j hj => by
        have := hcells g rfl j _ (rowZ_get xs xs.length j hj)
        rw [Nat.zero_add]
        have e : (⟨g, 0, none⟩ : Addr).add j = ⟨g, j, none⟩ := by by_cases h0 : j = 0 <;> simp [Addr.add, h0]
        rw [← e]; exact this
      have hF := Lib.hid (And.intro hB (And.intro hlc hok))
      have m0 : ¬ (0 : Int) < (xs.length : Int) - xs.length := by omega
      clear hlc hcells hB hown hok h hlt5
      go_wp2
      go_ret
      exact ⟨xs, g, c, hF.out.2.2, rfl, rfl, hF.out.1, by omega, hg, hF.out.2.1⟩
end Go.Proofs.Ytojbgeimlipajaa
