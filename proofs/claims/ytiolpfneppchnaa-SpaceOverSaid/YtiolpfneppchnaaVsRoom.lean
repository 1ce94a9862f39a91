/- SpaceRoom: the walk of the law. -/
import Derived.Test.YtiolpfneppchnaaVsLaw5
namespace Go.Proofs.Ytiolpfneppchnaa
open Go Go.RowKit Go.Vs

/-- what a law has done so far: nothing old has turned. -/
structure Own (w : World) (T : Tags) (wr : World) : Prop where
  old : ∀ k, k < w.heap.size → T k = .none
  below : Below w.heap.size w wr
  fresh : Fresh wr T

theorem Own.start (w : World) : Own w (fun _ => .none) w := ⟨fun _ _ => rfl, Below.refl _ _, fun _ _ => rfl⟩

theorem Own.step {C : Tag → Bool} {w wr w' : World} {T T' : Tags} (h : Own w T wr) (hs : Step C wr T w' T') (hc : C .none = false) : Own w T' w' where
  old := fun k hk => by rw [hs.old k (by have := h.below.size; omega)]; exact h.old k hk
  below := ⟨hs.os.trans h.below.os, hs.tape.trans h.below.tape, hs.output.trans h.below.output, Nat.le_trans h.below.size hs.size, fun k hk => (hs.same k (by have := h.below.size; omega) (by rw [h.old k hk]; exact hc)).trans (h.below.block k hk)⟩
  fresh := hs.fresh

theorem Own.setCell {w wr : World} {T : Tags} (h : Own w T wr) {b o : Nat} {v : Value} (hb : w.heap.size ≤ b) : Own w T (wr.setCell ⟨b, o, none⟩ v) where
  old := h.old
  below := ⟨h.below.os, h.below.tape, h.below.output, by rw [set_size]; exact h.below.size, fun k hk => (set_other (by omega)).trans (h.below.block k hk)⟩
  fresh := fun k hk => h.fresh k (by rw [set_size] at hk; exact hk)

theorem Own.alloc {w wr : World} {T : Tags} (h : Own w T wr) (o : Obj) : Own w T (wr.alloc o) where
  old := h.old
  below := h.below.alloc h.below.size o
  fresh := fun k hk => h.fresh k (by rw [alloc_size] at hk; omega)

theorem Own.belowStep {w wr w' : World} {T : Tags} (h : Own w T wr) (hb : Below wr.heap.size wr w') : Own w T w' where
  old := h.old
  below := below_trans h.below hb h.below.size
  fresh := fun k hk => h.fresh k (Nat.le_trans hb.size hk)

/-- a row of marks. -/
def MarksB (w : World) (g : Nat) (s : Nat → Bool) : Prop := ∃ cur : Array Value, w.heap[g]? = some (.cells cur 4 (0, 0)) ∧ cur.size = 4096 ∧ ∀ j, j < 4096 → cur[j]? = some (.bool (s j))

theorem MarksB.cell {w : World} {g : Nat} {s : Nat → Bool} (h : MarksB w g s) {j : Nat} (hj : j < 4096) : w.cell? ⟨g, j, none⟩ = some (.bool (s j)) := by
  obtain ⟨cur, hg, _, hc⟩ := h
  rw [cell_at hg]; exact hc j hj
theorem MarksB.froz {w : World} {g : Nat} {s : Nat → Bool} (h : MarksB w g s) (j : Nat) : w.frozen? ⟨g, j, none⟩ = false := by
  obtain ⟨cur, hg, _, hc⟩ := h; exact froz_at hg
theorem MarksB.kept {w w' : World} {g : Nat} {s : Nat → Bool} (h : MarksB w g s) (he : w'.heap[g]? = w.heap[g]?) : MarksB w' g s := by
  obtain ⟨cur, hg, r⟩ := h; exact ⟨cur, he.trans hg, r⟩
theorem MarksB.lt {w : World} {g : Nat} {s : Nat → Bool} (h : MarksB w g s) : g < w.heap.size := by
  obtain ⟨cur, hg, r⟩ := h; exact lt_of_at hg
theorem MarksB.set {w : World} {g : Nat} {s : Nat → Bool} (h : MarksB w g s) {j : Nat} (_hj : j < 4096) (b : Bool) : MarksB (w.setCell ⟨g, j, none⟩ (.bool b)) g (upd s j b) := by
  obtain ⟨cur, hg, hs, hc⟩ := h
  refine ⟨_, set_same hg, by simpa using hs, fun k hk => ?_⟩
  by_cases e : k = j
  · subst e; rw [upd_same]; simp [Array.getElem?_setIfInBounds, hs, hk]
  · rw [upd_other _ _ e, ← hc k hk]
    rw [Array.getElem?_setIfInBounds, if_neg (by omega)]

theorem und_bools : Try.prog.underlying 31 = some (.slice 4) := by kernel_rfl

theorem make_marks (w : World) : ∃ o, (Instr.makeSlice 31 (.int .i64 4096) (.int .i64 4096)).run Try.prog w = .ok (.slice (some ⟨w.heap.size, 0, none⟩) 4096 4096) (w.alloc o) ∧ MarksB (w.alloc o) w.heap.size (fun _ => false) := by
  have h := run_make_row' (P := Try.prog) 31 4 (.bool false) 1 und_bools info_bool rfl .i64 .i64 4096 (by omega) (by omega) w
  refine ⟨_, h, _, alloc_new, ?_, ?_⟩
  · simp [madeCells]
  · intro j hj
    simp only [madeCells, Array.getElem?_map, Array.getElem?_replicate, Array.getElem?_range]
    simp [hj, Nat.mod_one]

theorem and63 (x : Int) : ∃ n : Nat, bits .and .i64 x 63 = n ∧ n ≤ 63 := by
  have h63 : (BitVec.ofInt 64 63).toNat = 2 ^ 6 - 1 := by decide
  have key : (BitVec.ofInt 64 x &&& BitVec.ofInt 64 63).toNat = (x % ((2 ^ 64 : Nat) : Int)).toNat % 2 ^ 6 := by
    rw [BitVec.toNat_and, BitVec.toNat_ofInt, h63, Nat.and_two_pow_sub_one_eq_mod]
  refine ⟨(x % ((2 ^ 64 : Nat) : Int)).toNat % 2 ^ 6, ?_, by omega⟩
  show IntKind.i64.wrap ((BitVec.ofInt 64 x &&& BitVec.ofInt 64 63).toNat : Nat) = _
  rw [key, IntKind.wrap_i64]
  omega

/-- what there is, as marks: all pages that there may be; the free ones stand in a list. -/
def FreeIs (V : View) (F : List Nat) : Prop := V.total = 4095 ∧ F.Nodup ∧ (∀ q, q ∈ F → 1 ≤ q ∧ q ≤ 4095) ∧ ∀ q, 1 ≤ q → q ≤ 4095 → (V.pages q = none ↔ q ∈ F)

def MarksOf (s : Nat → Bool) (F : List Nat) : Prop := ∀ q, 1 ≤ q → q < 4096 → (s q = true ↔ q ∉ F)

/-- the pages that are freed. -/
def Sixty (k : Nat) : List Nat := (List.range k).map fun j => 60 * (j + 1)

theorem Sixty_mem (k q : Nat) : q ∈ Sixty k ↔ ∃ j, j < k ∧ q = 60 * (j + 1) := by
  unfold Sixty
  rw [List.mem_map]
  constructor
  · rintro ⟨j, hj, e⟩; exact ⟨j, List.mem_range.1 hj, e.symm⟩
  · rintro ⟨j, hj, e⟩; exact ⟨j, List.mem_range.2 hj, e.symm⟩

theorem Sixty_nodup (k : Nat) : (Sixty k).Nodup := by
  unfold Sixty
  rw [List.nodup_iff_pairwise_ne, List.pairwise_map]
  exact (List.nodup_iff_pairwise_ne.1 List.nodup_range).imp (fun h => by omega)

theorem Sixty_length (k : Nat) : (Sixty k).length = k := by simp [Sixty]

theorem FreeIs.free {V : View} {k : Nat} (h : FreeIs V (Sixty k)) (hk : k < 63) : FreeIs { V with pages := upd V.pages (60 * (k + 1)) none } (Sixty (k + 1)) := by
  obtain ⟨h1, h2, h3, h4⟩ := h
  refine ⟨h1, Sixty_nodup _, fun q hq => ?_, fun q q1 q2 => ?_⟩
  · obtain ⟨j, hj, rfl⟩ := (Sixty_mem _ _).1 hq; omega
  · show upd V.pages (60 * (k + 1)) none q = none ↔ _
    by_cases e : q = 60 * (k + 1)
    · subst e; rw [upd_same]; simp only [true_iff]; exact (Sixty_mem _ _).2 ⟨k, by omega, rfl⟩
    · rw [upd_other _ _ e, h4 q q1 q2, Sixty_mem, Sixty_mem]
      constructor
      · rintro ⟨j, hj, e'⟩; exact ⟨j, by omega, e'⟩
      · rintro ⟨j, hj, e'⟩
        by_cases ej : j = k
        · subst ej; exact absurd e' e
        · exact ⟨j, by omega, e'⟩

theorem MarksOf.free {m : Nat → Bool} {k : Nat} (h : MarksOf m (Sixty k)) : MarksOf (upd m (60 * (k + 1)) false) (Sixty (k + 1)) := by
  intro q q1 q2
  by_cases e : q = 60 * (k + 1)
  · subst e; rw [upd_same]; simp only [Bool.false_eq_true, false_iff, Decidable.not_not]; exact (Sixty_mem _ _).2 ⟨k, by omega, rfl⟩
  · rw [upd_other _ _ e, h q q1 q2, Sixty_mem, Sixty_mem]
    constructor
    · rintro hn ⟨j, hj, e'⟩
      by_cases ej : j = k
      · subst ej; exact e e'
      · exact hn ⟨j, by omega, e'⟩
    · rintro hn ⟨j, hj, e'⟩; exact hn ⟨j, by omega, e'⟩

theorem FreeIs.take {V : View} {F : List Nat} (h : FreeIs V F) {q : Nat} (hq : q ∈ F) (x : Bs) : FreeIs { V with pages := upd V.pages q (some x), total := max V.total q } (F.erase q) := by
  obtain ⟨h1, h2, h3, h4⟩ := h
  have hq' := h3 q hq
  refine ⟨by show max V.total q = 4095; omega, h2.erase _, fun r hr => h3 r (List.mem_of_mem_erase hr), fun r r1 r2 => ?_⟩
  show upd V.pages q (some x) r = none ↔ _
  rw [h2.mem_erase_iff]
  by_cases e : r = q
  · subst e; rw [upd_same]; simp
  · rw [upd_other _ _ e, h4 r r1 r2]; simp [e]

theorem MarksOf.take {m : Nat → Bool} {F : List Nat} (h : MarksOf m F) (hn : F.Nodup) (q : Nat) : MarksOf (upd m q true) (F.erase q) := by
  intro r r1 r2
  rw [hn.mem_erase_iff]
  by_cases e : r = q
  · subst e; rw [upd_same]; simp
  · rw [upd_other _ _ e, h r r1 r2]; simp [e]

set_option maxRecDepth 100000 in
set_option maxHeartbeats 3200000 in
theorem law_room (a0 : Int) (w : World) :
    Calls Try.prog 3 #[.int .i64 a0] w fun e w' => e = .returned (.bool true) ∧ Below w.heap.size w w' := by
  have o0 := Own.start w
  have hdn := disk_new w _ o0.fresh
  obtain ⟨n, hn, hn63⟩ := and63 a0
  have HN := Lib.hid hn
  have O0 := Lib.hid o0
  clear o0 hn
  go_enter Try.func3, Try.ntmps3
  go_wp2_with fail
  refine hdn.mono ?_
  rintro e1 w1 ⟨rfl, T1, hD1, hS1⟩
  obtain ⟨d, hd⟩ : ∃ d, d = w.heap.size := ⟨_, rfl⟩
  rw [← hd] at hD1 ⊢
  have hop := open_new d 8 w1 T1 hS1.fresh hD1 (by omega) (by omega)
  have HOP := Lib.hid hop; have O1 := Lib.hid (O0.out.step hS1 rfl)
  clear hd hdn hop hD1 hS1 O0
  go_wp2_with fail
  refine HOP.out.mono ?_
  rintro e2 w2 ⟨s, rfl, _, T2, hR2, hS2⟩
  have hbg := space_begin s d 0 K0 [] w2 T2 hS2.fresh hR2
  have HBG := Lib.hid hbg; have O2 := Lib.hid (O1.out.step hS2 rfl)
  clear hbg hR2 hS2 HOP O1
  go_wp2_with fail
  refine HBG.out.mono ?_
  rintro e3 w3 ⟨E, rfl, ⟨hEs, hEd, hEK, hEN, hEf⟩, _, _, T3, hA3, hS3⟩
  have hEN' : E.N < 1099511627770 := by rw [hEN]; omega
  have O3 := Lib.hid (O2.out.step hS3 rfl); have HA3 := Lib.hid hA3
  have HEs := Lib.hid hEs; have HEd := Lib.hid hEd; have HEK := Lib.hid hEK; have HEN := Lib.hid hEN; have HEF := Lib.hid hEf
  clear hA3 hS3 HBG O2 hEs hEd hEK hEN hEf
  obtain ⟨mo, hmk, hmb⟩ := make_marks w3
  obtain ⟨g, hg⟩ : ∃ g, g = w3.heap.size := ⟨_, rfl⟩
  rw [← hg] at hmk hmb
  obtain ⟨w4, hw4⟩ : ∃ w4, w4 = w3.alloc mo := ⟨_, rfl⟩
  rw [← hw4] at hmk hmb
  have hgw : w.heap.size ≤ g := by rw [hg]; exact O3.out.below.size
  have hTg : T3 g = .none := O3.out.fresh g (by omega)
  have s4 : Step (fun _ => false) w3 T3 w4 T3 := by rw [hw4]; exact (Step.refl O3.out.fresh).alloc _
  have HM4 := Lib.hid hmb; have HA4 := Lib.hid (HA3.out.kept s4 (fun _ _ => rfl)); have O4 := Lib.hid (O3.out.step s4 rfl)
  clear hmb s4 hw4 O3 HA3 hg
  go_wp2_with fail
  go_loopw [8, 9, 10] (fun u8 _ _ wr => ∃ (i : Nat) (T5 : Tags) (V : View) (m : Nat → Bool), u8 = .int .i64 i ∧ 1 ≤ i ∧ i ≤ 4096 ∧ Hid (T5 g = .none) ∧ Hid (ActV E wr T5 V) ∧ Hid (Own w T5 wr) ∧ Hid (MarksB wr g m) ∧ Hid (V.total + 1 = i ∧ (∀ q, 1 ≤ q → q ≤ V.total → V.pages q ≠ none) ∧ ∀ q, 1 ≤ q → q < 4096 → (m q = true ↔ q ≤ V.total))) (fun u8 _ _ _ => 4096 - (intOf u8).toNat)
  case atStart => exact ⟨1, T3, V0, fun _ => false, rfl, by omega, by omega, Lib.hid hTg, HA4, O4, HM4, Lib.hid ⟨by rw [V0_total], fun q h1 h2 => by rw [V0_total] at h2; omega, fun q h1 _ => by rw [V0_total]; simp; omega⟩⟩
  case round =>
    obtain ⟨i, T5, V, m, rfl, hi1, hi2, HT5, HA5, O5, HM5, HV5⟩ := hrel
    by_cases hin : i < 4096
    · have hal := act_alloc E V wr T5 O5.out.fresh HA5.out hEN'
      have HAL := Lib.hid hal
      have hii : (i : Int) < 4096 := by omega
      clear hal
      go_wp2_with fail
      refine HAL.out.mono ?_
      rintro e6 w6 ⟨T6, hS6, ⟨q, rfl, hVq, hq1, hq4, hA6, hq2⟩ | ⟨_, _, hbad, _⟩⟩
      rotate_left
      · exfalso; have := HV5.out.1; omega
      have hqi : q = i := by
        obtain ⟨v1, v2, _⟩ := HV5.out
        rcases hq2 with h | ⟨h, _⟩
        · exact absurd hVq (v2 q hq1 h)
        · omega
      subst hqi
      have hm6 : MarksB w6 g m := HM5.out.kept (hS6.same g HM5.out.lt (by rw [HT5.out]; rfl))
      have hf6 : m q = false := by
        cases hmq : m q with
        | false => rfl
        | true => have := (HV5.out.2.2 q hi1 hin).1 hmq; have := HV5.out.1; omega
      have kc := hm6.cell hin
      rw [hf6] at kc
      have kz := hm6.froz q
      have ht6 : T6 g = .none := hS6.tagOf HM5.out.lt HT5.out
      have s7 : Step (fun t => t == .none) w6 T6 (w6.setCell ⟨g, q, none⟩ (.bool true)) T6 := (Step.refl hS6.fresh).setCell (by rw [ht6]; rfl)
      have HM7 := Lib.hid (hm6.set hin true); have HA7 := Lib.hid (hA6.kept s7 (fun t ht => by cases t <;> first | rfl | cases ht)); have O7 := Lib.hid ((O5.out.step hS6 rfl).setCell (o := q) (v := .bool true) hgw); have HT7 := Lib.hid ht6
      have hmx : max V.total q = q := by have := HV5.out.1; omega
      have HV7 : Hid ((View.mk (upd V.pages q (some (zeros 512))) V.roots (max V.total q)).total + 1 = q + 1 ∧ (∀ r, 1 ≤ r → r ≤ (View.mk (upd V.pages q (some (zeros 512))) V.roots (max V.total q)).total → (View.mk (upd V.pages q (some (zeros 512))) V.roots (max V.total q)).pages r ≠ none) ∧ ∀ r, 1 ≤ r → r < 4096 → (upd m q true r = true ↔ r ≤ (View.mk (upd V.pages q (some (zeros 512))) V.roots (max V.total q)).total)) := Lib.hid (by
        obtain ⟨v1, v2, v3⟩ := HV5.out
        refine ⟨by show max V.total q + 1 = q + 1; omega, fun r h1 h2 => ?_, fun r h1 h2 => ?_⟩
        · have h2' : r ≤ max V.total q := h2
          show upd V.pages q (some (zeros 512)) r ≠ none
          by_cases e : r = q
          · subst e; rw [upd_same]; simp
          · rw [upd_other _ _ e]; exact v2 r h1 (by omega)
        · show upd m q true r = true ↔ r ≤ max V.total q
          by_cases e : r = q
          · subst e; rw [upd_same]; simp; omega
          · rw [upd_other _ _ e, v3 r h1 h2]; omega)
      clear hm6 hA6 hS6 hf6 ht6 s7 HAL HA5 HM5 HV5 hVq hq2 hmx HT5 O5
      go_wp2_with fail
      go_round
      case rel => exact ⟨q + 1, T6, _, _, by go_num, by omega, by omega, HT7, HA7, O7, HM7, HV7⟩
      case measure => simp [intOf]; omega
    · obtain rfl : i = 4096 := by omega
      have hV : V.total = 4095 := by have := HV5.out.1; omega
      have hal := act_alloc E V wr T5 O5.out.fresh HA5.out hEN'
      have HAL := Lib.hid hal; have HVT := Lib.hid hV
      clear hal hV
      go_wp2_with fail
      refine HAL.out.mono ?_
      rintro e6 w6 ⟨T6, hS6, ⟨q, _, hVq, hq1, hq4, _, _⟩ | ⟨rfl, hA6, _, _⟩⟩
      · exfalso; exact (HV5.out.2.1 q hq1 (by rw [HVT.out]; omega)) hVq
      have hm6 : MarksB w6 g m := HM5.out.kept (hS6.same g HM5.out.lt (by rw [HT5.out]; rfl))
      have HM6 := Lib.hid hm6; have HA6 := Lib.hid hA6; have O6 := Lib.hid (O5.out.step hS6 rfl); have HT6 := Lib.hid (hS6.tagOf HM5.out.lt HT5.out)
      have HF6 : Hid (FreeIs V [] ∧ MarksOf m []) := Lib.hid (by
        obtain ⟨v1, v2, v3⟩ := HV5.out
        rw [HVT.out] at v2 v3
        refine ⟨⟨HVT.out, List.nodup_nil, fun q hq => (by cases hq), fun q h1 h2 => ?_⟩, fun q h1 h2 => ?_⟩
        · simp [v2 q h1 h2]
        · rw [v3 q h1 h2]; simp; omega)
      have hn := HN.out
      clear hm6 hA6 hS6 HAL HA5 HM5 HV5 HT5 O5 HVT
      go_wp2_with fail
      have hF0 : Sixty 0 = [] := rfl
      go_loopw [14] (fun u14 wr => ∃ (i : Nat) (T5 : Tags) (V : View) (m : Nat → Bool), u14 = .int .i64 (i + 1 : Nat) ∧ i ≤ n ∧ Hid (T5 g = .none) ∧ Hid (ActV E wr T5 V) ∧ Hid (Own w T5 wr) ∧ Hid (MarksB wr g m) ∧ Hid (FreeIs V (Sixty i) ∧ MarksOf m (Sixty i))) (fun u14 _ => n + 1 - (intOf u14).toNat)
      case atStart => exact ⟨0, T6, V, m, rfl, by omega, HT6, HA6, O6, HM6, by rw [hF0]; exact HF6⟩
      case round =>
        obtain ⟨i, T7, V7, m7, rfl, hi, HT7, HA7, O7, HM7, HF7⟩ := hrel
        by_cases hin : i < n
        · obtain ⟨q, hq⟩ : ∃ q, q = 60 * (i + 1) := ⟨_, rfl⟩
          have hq60 : ((i : Int) + 1) * 60 = (q : Int) := by omega
          have hq4 : q < 4096 := by omega
          have hqn : q ∉ Sixty i := by rw [Sixty_mem]; rintro ⟨j, hj, e⟩; omega
          obtain ⟨b, hb⟩ : ∃ b, V7.pages q = some b := by
            cases hp : V7.pages q with
            | some b => exact ⟨b, rfl⟩
            | none => exact absurd ((HF7.out.1.2.2.2 q (by omega) (by omega)).1 hp) hqn
          have hfr := act_free E (n := (q : Int)) q rfl b V7 wr T7 O7.out.fresh HA7.out hEN' hb
          have HFR := Lib.hid hfr; have HQ := Lib.hid hq
          have hii : (i : Int) + 1 ≤ n := by omega
          clear hfr hb hqn hq
          go_wp2_with fail
          refine HFR.out.mono ?_
          rintro e8 w8 ⟨rfl, T8, hA8, hS8⟩
          have hm8 : MarksB w8 g m7 := HM7.out.kept (hS8.same g HM7.out.lt (by rw [HT7.out]; rfl))
          have kc := hm8.cell hq4
          have kz := hm8.froz q
          have ht8 : T8 g = .none := hS8.tagOf HM7.out.lt HT7.out
          have s9 : Step (fun t => t == .none) w8 T8 (w8.setCell ⟨g, q, none⟩ (.bool false)) T8 := (Step.refl hS8.fresh).setCell (by rw [ht8]; rfl)
          have HM9 := Lib.hid (hm8.set hq4 false); have HA9 := Lib.hid (hA8.kept s9 (fun t ht => by cases t <;> first | rfl | cases ht)); have O9 := Lib.hid ((O7.out.step hS8 rfl).setCell (o := q) (v := .bool false) hgw); have HT9 := Lib.hid ht8
          have HF9 : Hid (FreeIs { V7 with pages := upd V7.pages q none } (Sixty (i + 1)) ∧ MarksOf (upd m7 q false) (Sixty (i + 1))) := Lib.hid (by
            rw [HQ.out]
            exact ⟨HF7.out.1.free (by omega), HF7.out.2.free⟩)
          clear hm8 hA8 hS8 ht8 s9 HFR HA7 HM7 HF7 HT7 O7
          go_wp2_with fail
          go_round
          case rel => exact ⟨i + 1, T8, _, _, by go_num, by omega, HT9, HA9, O9, HM9, HF9⟩
          case measure => simp [intOf]; omega
        · obtain rfl : i = n := by omega
          have hii : ¬ (i : Int) + 1 ≤ i := by omega
          go_wp2_with fail
          clear hii hin hi
          go_loopw [15, 16, 17] (fun u15 _ _ wr => ∃ (k : Nat) (T8 : Tags) (V8 : View) (m8 : Nat → Bool) (F : List Nat), u15 = .int .i64 k ∧ k ≤ i ∧ Hid (F.length = i - k) ∧ Hid (T8 g = .none) ∧ Hid (ActV E wr T8 V8) ∧ Hid (Own w T8 wr) ∧ Hid (MarksB wr g m8) ∧ Hid (FreeIs V8 F ∧ MarksOf m8 F)) (fun u15 _ _ _ => i - (intOf u15).toNat)
          case atStart => exact ⟨0, T7, V7, m7, Sixty i, rfl, by omega, Lib.hid (Sixty_length i), HT7, HA7, O7, HM7, HF7⟩
          case round =>
            obtain ⟨k, T8, V8, m8, F, rfl, hk, HFL, HT8, HA8, O8, HM8, HF8⟩ := hrel
            have hal := act_alloc E V8 wr T8 O8.out.fresh HA8.out hEN'
            have HAL := Lib.hid hal
            clear hal
            by_cases hin : k < i
            · have hii : (k : Int) < i := by omega
              go_wp2_with fail
              refine HAL.out.mono ?_
              rintro e9 w9 ⟨T9, hS9, ⟨q, rfl, hVq, hq1, hq4, hA9, hq2⟩ | ⟨_, _, _, hfull⟩⟩
              rotate_left
              · exfalso
                obtain ⟨f1, f2, f3, f4⟩ := HF8.out.1
                have hl := HFL.out
                cases F with
                | nil => simp at hl; omega
                | cons x l => exact (hfull x (f3 x (by simp)).1 (f3 x (by simp)).2) ((f4 x (f3 x (by simp)).1 (f3 x (by simp)).2).2 (by simp))
              have hqF : q ∈ F := (HF8.out.1.2.2.2 q hq1 (by omega)).1 hVq
              have hm9 : MarksB w9 g m8 := HM8.out.kept (hS9.same g HM8.out.lt (by rw [HT8.out]; rfl))
              have hf9 : m8 q = false := by
                cases hmq : m8 q with
                | false => rfl
                | true => exact absurd hqF ((HF8.out.2 q hq1 hq4).1 hmq)
              have kc := hm9.cell hq4
              rw [hf9] at kc
              have kz := hm9.froz q
              have ht9 : T9 g = .none := hS9.tagOf HM8.out.lt HT8.out
              have s10 : Step (fun t => t == .none) w9 T9 (w9.setCell ⟨g, q, none⟩ (.bool true)) T9 := (Step.refl hS9.fresh).setCell (by rw [ht9]; rfl)
              have HM10 := Lib.hid (hm9.set hq4 true); have HA10 := Lib.hid (hA9.kept s10 (fun t ht => by cases t <;> first | rfl | cases ht)); have O10 := Lib.hid ((O8.out.step hS9 rfl).setCell (o := q) (v := .bool true) hgw); have HT10 := Lib.hid ht9
              have HF10 : Hid (FreeIs { V8 with pages := upd V8.pages q (some (zeros 512)), total := max V8.total q } (F.erase q) ∧ MarksOf (upd m8 q true) (F.erase q)) := Lib.hid ⟨HF8.out.1.take hqF _, HF8.out.2.take HF8.out.1.2.1 q⟩
              have HFL10 : Hid ((F.erase q).length = i - (k + 1)) := Lib.hid (by rw [List.length_erase_of_mem hqF, HFL.out]; omega)
              clear hm9 hA9 hS9 hf9 ht9 s10 HAL HA8 HM8 HF8 HT8 O8 hqF hVq hq2 HFL
              go_wp2_with fail
              go_round
              case rel => exact ⟨k + 1, T9, _, _, _, by go_num, by omega, HFL10, HT10, HA10, O10, HM10, HF10⟩
              case measure => simp [intOf]; omega
            · obtain rfl : k = i := by omega
              have hii : ¬ (k : Int) < k := by omega
              go_wp2_with fail
              refine HAL.out.mono ?_
              rintro e9 w9 ⟨T9, hS9, ⟨q, _, hVq, hq1, hq4, _, _⟩ | ⟨rfl, hA9, _, _⟩⟩
              · exfalso
                have h1 : q ∈ F := (HF8.out.1.2.2.2 q hq1 (by omega)).1 hVq
                have h2 := HFL.out
                have := List.length_pos_of_mem h1
                omega
              have hab := act_abort E [] V8 w9 T9 hS9.fresh hA9 (by rw [HEK.out]; exact Meta0) HEF.out
              have HAB := Lib.hid hab; have O9 := Lib.hid (O8.out.step hS9 rfl)
              clear hab hA9 hS9 HAL HA8 HM8 HF8 HT8 O8 HFL
              go_wp2_with fail
              refine HAB.out.mono ?_
              rintro e10 w10 ⟨rfl, hR10, _, hS10⟩
              rw [HEs.out, HEd.out, HEK.out, HEN.out] at hR10
              have hst := law_stands s d 0 K0 w10 T9 hS10.fresh hR10 (by omega) tot0 (fun k _ => root0 k)
              have HST := Lib.hid hst; have O10 := Lib.hid (O9.out.step hS10 rfl)
              unfold zState at HST
              clear hst hR10 hS10 HAB O9
              go_wp2_with fail
              refine HST.out.mono ?_
              rintro e11 w11 ⟨rfl, T11, _, hS11⟩
              have haw := law_awake5 w11 T11 hS11.fresh
              have HAW := Lib.hid haw; have O11 := Lib.hid (O10.out.step hS11 rfl)
              clear haw hS11 HST O10
              go_wp2_with fail
              refine HAW.out.mono ?_
              rintro e12 w12 ⟨rfl, T12, hS12⟩
              have O12 := Lib.hid (O11.out.step hS12 rfl)
              clear hS12 HAW O11
              go_wp2_with fail
              go_ret
              exact ⟨rfl, O12.out.below⟩
end Go.Proofs.Ytiolpfneppchnaa
