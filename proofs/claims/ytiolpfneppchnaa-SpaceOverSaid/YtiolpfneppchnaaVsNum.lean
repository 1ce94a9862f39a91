/- Numbers of four bytes: space.number, space.digits. -/
import Derived.Test.YtiolpfneppchnaaVsDisk2
namespace Go.Proofs.Ytiolpfneppchnaa
open Go Go.RowKit Go.Vs

theorem wraps_i64 (n : Int) (h₀ : 0 ≤ n) (h₁ : n < 2 ^ 62) : IntKind.i64.wrap n = n := by rw [IntKind.wrap_i64]; omega

theorem i64_or (i : Nat) (x y : Int) (hi : i ≤ 62) (hx0 : 0 ≤ x) (hx : x % (2 ^ i : Int) = 0) (hx1 : x < 4611686018427387904) (hy0 : 0 ≤ y) (hy : y < (2 ^ i : Int)) : bits .or .i64 x y = x + y :=
  bits_join .i64 62 (by decide) wraps_i64 i x y hx0 hx (by simpa using hx1) hy0 hy (by
    have h1 : (2 : Int) ^ i ≤ 2 ^ 62 := by
      have := Nat.pow_le_pow_right (show 0 < 2 by decide) hi
      exact_mod_cast this
    omega)

/-- four bytes of a number. -/
def be4 (n : Nat) : Bs := [UInt8.ofNat (n / 16777216), UInt8.ofNat (n / 65536), UInt8.ofNat (n / 256), UInt8.ofNat n]

/-- the number of four bytes. -/
def num4 (b : Bs) : Nat := (b.getD 0 0).toNat * 16777216 + (b.getD 1 0).toNat * 65536 + (b.getD 2 0).toNat * 256 + (b.getD 3 0).toNat

theorem num4_be4 (n : Nat) (h : n < 4294967296) : num4 (be4 n) = n := by
  simp [num4, be4, UInt8.toNat_ofNat']; omega

theorem num4_lt (b : Bs) : num4 b < 4294967296 := by
  unfold num4
  have h0 := (b.getD 0 0).toNat_lt
  have h1 := (b.getD 1 0).toNat_lt
  have h2 := (b.getD 2 0).toNat_lt
  have h3 := (b.getD 3 0).toNat_lt
  omega

theorem num4_append (n : Nat) (h : n < 4294967296) (l : Bs) : num4 (be4 n ++ l) = n := by
  have := num4_be4 n h
  simpa [num4, be4] using this

theorem be4_length (n : Nat) : (be4 n).length = 4 := rfl

/-- the cells as the walk writes them. -/
theorem cells_be4 (n : Nat) (h : n < 4294967296) : cells (be4 n) = [.int .u8 ((n : Int) / 16777216), .int .u8 ((n : Int) / 65536 % 256), .int .u8 ((n : Int) / 256 % 256), .int .u8 ((n : Int) % 256)] := by
  simp [cells, be4, UInt8.toNat_ofNat']
  omega

theorem blk_be4 (n : Nat) (h : n < 4294967296) (w : World) (o : Obj) (ho : o = .cells #[.int .u8 ((n : Int) / 16777216), .int .u8 ((n : Int) / 65536 % 256), .int .u8 ((n : Int) / 256 % 256), .int .u8 ((n : Int) % 256)] 5) : BlkB (w.alloc o) 5 w.heap.size 4 (be4 n) := by
  subst ho
  refine ⟨_, _, alloc_new, .inl rfl, rfl, Nat.le_refl _, by unfold maxLen; omega, ?_⟩
  rw [cells_be4 n h]; rfl

/-- the four bytes as a region that draws writes them. -/
theorem conv_be4 (n : Nat) (h : n < 4294967296) (w : World) :
    (convert 69 9 (.slice (some ⟨w.heap.size, 0, none⟩) 4 4)).run Try.prog (w.alloc (.cells #[.int .u8 (IntKind.u8.wrap ((n : Int) / 16777216)), .int .u8 (IntKind.u8.wrap ((n : Int) / 65536)), .int .u8 (IntKind.u8.wrap ((n : Int) / 256)), .int .u8 (IntKind.u8.wrap (n : Int))] 5)).drew =
      .ok (str (be4 n)) (w.alloc (.cells #[.int .u8 (IntKind.u8.wrap ((n : Int) / 16777216)), .int .u8 (IntKind.u8.wrap ((n : Int) / 65536)), .int .u8 (IntKind.u8.wrap ((n : Int) / 256)), .int .u8 (IntKind.u8.wrap (n : Int))] 5)).drew := by
  have e1 : (n : Int) / 16777216 % 256 = (n : Int) / 16777216 := by omega
  have hb := blk_be4 n h w _ rfl
  simp only [IntKind.wrap_u8, e1]
  exact run_string_of _ _ _ _ _ _ und_bytes und_u8 und_string (show SlB (w.alloc _).drew _ _ from hb.slb).reads

set_option maxHeartbeats 400000 in
theorem digits_any (n : Nat) (hn : n < 4294967296) (w : World) :
    Calls Try.prog 46 #[.int .i64 n] w fun e w' => e = .returned (str (be4 n)) ∧ Below w.heap.size w w' := by
  have h0 : (0 : Int) ≤ n := by omega
  go_enter Try.func46, Try.ntmps46
  go_wp2_with (with_reducible refine hold_convert 69 9 _ rfl ?_)
  unfold Hold
  refine wpList_string rfl _ _ _ rfl _ und_bytes und_u8 und_string rfl (blk_be4 n hn w _ rfl).slb ?_
  go_wp2
  go_ret
  exact ⟨rfl, (Below.refl _ _).alloc (Nat.le_refl _) _⟩

theorem num4_int (b : Bs) (x0 x1 x2 x3 : UInt8) (h0 : b[0]? = some x0) (h1 : b[1]? = some x1) (h2 : b[2]? = some x2) (h3 : b[3]? = some x3) :
    bits .or .i64 (bits .or .i64 (bits .or .i64 ((x0.toNat : Int) * 16777216) ((x1.toNat : Int) * 65536)) ((x2.toNat : Int) * 256)) (x3.toNat : Int) = (num4 b : Int) := by
  have b0 := x0.toNat_lt
  have b1 := x1.toNat_lt
  have b2 := x2.toNat_lt
  have b3 := x3.toNat_lt
  have a1 := i64_or 24 ((x0.toNat : Int) * 16777216) ((x1.toNat : Int) * 65536) (by omega) (by omega) (by omega) (by omega) (by omega) (by omega)
  have a2 := i64_or 16 ((x0.toNat : Int) * 16777216 + (x1.toNat : Int) * 65536) ((x2.toNat : Int) * 256) (by omega) (by omega) (by omega) (by omega) (by omega) (by omega)
  have a3 := i64_or 8 ((x0.toNat : Int) * 16777216 + (x1.toNat : Int) * 65536 + (x2.toNat : Int) * 256) (x3.toNat : Int) (by omega) (by omega) (by omega) (by omega) (by omega) (by omega)
  rw [a1, a2, a3]
  simp only [num4, List.getD, h0, h1, h2, h3, Option.getD_some]
  omega

set_option maxHeartbeats 800000 in
theorem number_any (v : Value) (bs : Bs) (hl : 4 ≤ bs.length) (w : World) (h : SlB w v bs) :
    Calls Try.prog 40 #[v] w fun e w' => e = .returned (.int .i64 (num4 bs)) ∧ ∃ k, w' = w.drewN k := by
  obtain ⟨ao, cap, rfl, hc, hm, ⟨rfl, rfl, rfl⟩ | ⟨b, off, rfl, hcell⟩⟩ := h
  · simp at hl
  have g : ∀ j, j < 4 → ∃ x, bs[j]? = some x := fun j hj => ⟨_, List.getElem?_eq_getElem (by omega)⟩
  obtain ⟨x0, e0⟩ := g 0 (by omega)
  obtain ⟨x1, e1⟩ := g 1 (by omega)
  obtain ⟨x2, e2⟩ := g 2 (by omega)
  obtain ⟨x3, e3⟩ := g 3 (by omega)
  have c0 := hcell 0 x0 e0
  have c1 := hcell 1 x1 e1
  have c2 := hcell 2 x2 e2
  have c3 := hcell 3 x3 e3
  simp only [Nat.add_zero] at c0
  have b0 := x0.toNat_lt
  have b1 := x1.toNat_lt
  have b2 := x2.toNat_lt
  have b3 := x3.toNat_lt
  have l1 : 0 < bs.length := by omega
  have l2 : 1 < bs.length := by omega
  have l3 : 2 < bs.length := by omega
  have l4 : 3 < bs.length := by omega
  have HN := Lib.hid (num4_int bs x0 x1 x2 x3 e0 e1 e2 e3)
  clear hcell g e0 e1 e2 e3
  go_enter Try.func40, Try.ntmps40
  go_wp2
  go_quiet (fail)
  go_wp2
  go_ret
  exact ⟨by rw [← HN.out]; rfl, nq, rfl⟩
end Go.Proofs.Ytiolpfneppchnaa
