/- The pool (layer 4): Pin, where no frame holds the page. -/
import Derived.Test.YtiolpfneppchnaaVsPool7
import Derived.Deep.OwnRows
namespace Go.Proofs.Ytiolpfneppchnaa
open Go Go.RowKit Go.Vs

theorem made_zeros (n : Nat) : madeCells #[Value.int .u8 0] n = (cells (zeros n)).toArray := by
  rw [cells_zeros]
  apply Array.ext_getElem?
  intro j
  simp only [madeCells, Array.getElem?_map, Array.getElem?_replicate, Array.getElem?_range]
  by_cases h : j < n
  · simp [h, Nat.mod_one]
  · simp [h]

theorem hold_store {P : Program} {ops : Array Oper} {rest : List Oper} {o : Oper} {a : Act} {Q : Exit → Act → World → Prop} {w : World} (t : TypeId) (x y : Operand) (_ho : o.op = .store t x y) (h : Hold (wpList P ops Q (o :: rest) a w)) : wpList P ops Q (o :: rest) a w := h

theorem size_frame : (Try.prog.info? 134).map (·.size) = some 5 := by kernel_rfl

theorem make_page (w : World) : (Instr.makeSlice 69 (.int .i64 512) (.int .i64 512)).run Try.prog w = .ok (.slice (some ⟨w.heap.size, 0, none⟩) 512 512) (w.alloc (.cells (cells (zeros 512)).toArray 5)) := by
  have h := run_make_row' (P := Try.prog) 69 5 (.int .u8 0) 1 und_bytes info_u8 rfl .i64 .i64 512 (by omega) (by omega) w
  rw [made_zeros] at h
  exact h

/-- the loose frame takes a page. -/
theorem PoolL.fill {n most hand : Nat} {fr : Nat → Fr} {at' : Int → Option Nat} {base : Nat → Bs} {f1 : Bs} {N nr i page : Nat} (L : PoolL n most hand fr at' base f1 N nr (some i) none) (hi : i < n) (x : Fr) (ha : at' page = none) (hp : page < 4096)
    (h1 : x.page = page) (h2 : x.bytes = pg f1 page) (h3 : x.changed = false) (h4 : x.pins = 1) : PoolL n most hand (upd fr i x) (mupd at' page (some i)) base f1 N nr none (some i) := by
  have hno : ∀ j, j < n → j ≠ i → (fr j).page ≠ page := by
    intro j hj hne e
    have := (L.at_iff page j).2 ⟨hj, fun h => hne (Option.some.inj h), by rw [e]⟩
    rw [ha] at this; cases this
  have hl : ∀ j, j ≠ i → some j ≠ some i := fun j hj h => hj (Option.some.inj h)
  refine { hn := L.hn, hm0 := L.hm0, hm1 := L.hm1, hand := L.hand, at_iff := ?_, page := ?_, len := ?_, bas := ?_, clean := ?_, free := ?_, out := ?_, pins := ?_, flen := L.flen, cnt := ?_ }
  · intro k j
    by_cases ek : k = page
    · subst ek
      rw [mupd_same]
      by_cases ej : j = i
      · subst ej; rw [upd_same, h1]; simp [hi]
      · rw [upd_other _ _ ej]
        constructor
        · intro h; exact absurd (Option.some.inj h).symm ej
        · rintro ⟨a, _, c⟩; exact absurd (by omega) (hno j a ej)
    · rw [mupd_other _ _ ek, L.at_iff]
      by_cases ej : j = i
      · subst ej
        rw [upd_same, h1]
        constructor
        · rintro ⟨_, b, _⟩; exact absurd rfl b
        · rintro ⟨_, _, c⟩; exact absurd c.symm ek
      · rw [upd_other _ _ ej]
        constructor
        · rintro ⟨a, _, c⟩; exact ⟨a, by simp, c⟩
        · rintro ⟨a, _, c⟩; exact ⟨a, hl j ej, c⟩
  · intro j hj _
    by_cases ej : j = i
    · subst ej; rw [upd_same, h1]; exact hp
    · rw [upd_other _ _ ej]; exact L.page j hj (hl j ej)
  · intro j hj _
    by_cases ej : j = i
    · subst ej; rw [upd_same, h2]; exact pg_length _ _
    · rw [upd_other _ _ ej]; exact L.len j hj (hl j ej)
  · intro j hj _
    by_cases ej : j = i
    · subst ej; rw [upd_same, h1, h2]; exact L.out page hp ha
    · rw [upd_other _ _ ej]; exact L.bas j hj (hl j ej)
  · intro j hj _
    by_cases ej : j = i
    · subst ej; rw [upd_same, h1, h2]; exact fun _ => rfl
    · rw [upd_other _ _ ej]; exact L.clean j hj (hl j ej)
  · intro j hj; cases hj
  · intro q hq hat
    by_cases e : (q : Int) = page
    · rw [e, mupd_same] at hat; cases hat
    · rw [mupd_other _ _ e] at hat; exact L.out q hq hat
  · intro j hj
    by_cases ej : j = i
    · subst ej; rw [upd_same, h4]; simp
    · rw [upd_other _ _ ej, L.pins j hj]; simp [ej]
  · rw [chg_congr (fr := fr) n (fun j _ => by
      by_cases ej : j = i
      · subst ej; rw [upd_same, h3]; exact (L.free j rfl).symm
      · rw [upd_other _ _ ej])]
    exact L.cnt


set_option maxRecDepth 100000 in
set_option maxHeartbeats 1600000 in
theorem pool_pin_miss (p d most n hand page : Nat) (fr : Nat → Fr) (at' : Int → Option Nat) (base : Nat → Bs) (w : World) (T : Tags) (f : Nat → Bs) (N nr : Nat) (hf : Fresh w T) (h : PoolM w T p d most n hand fr at') (hd : DiskR w T d f nr) (L : PoolL n most hand fr at' base (f 1) N nr none none)
    (ha : at' page = none) (hp : page < 4096) (hN : N < 1099511627770) :
    Calls Try.prog 76 #[ptr p, .int .i64 page] w fun e w' => e = .returned (.int .i64 0) ∧ ∃ T' f', PoolP w' T' p d base f' N page ∧ Wrote f f' base ∧ Step isPool w T w' T' := by
  obtain ⟨m, c4, hl⟩ := h.look page
  rw [ha] at hl
  have c1 := h.c1
  have hm0 : 0 < most := L.hm0
  have hp0 : ¬ (page : Int) < 0 := by omega
  have hp1 : ¬ (4096 : Int) ≤ page := by omega
  have HR := Lib.hid (pool_room p d n most hand fr at' base w T f N nr hf h hd L hN)
  have HA := Lib.hid ha
  clear h L ha hd
  go_enter Try.func76, Try.ntmps76
  go_wp2_with (go_at_call 85; refine (pool_given p w most c1 hm0).mono ?_; rintro e w' ⟨rfl, rfl⟩)
  refine HR.out.mono ?_
  rintro e w1 ⟨i, n', hand', fr1, at1, f1, nr1, T1, rfl, hi, hat, hM, hD, hL, hW, hS⟩
  have HM := Lib.hid hM; have HD := Lib.hid hD; have HL := Lib.hid hL; have HW := Lib.hid hW; have HS := Lib.hid hS
  have c1' := hM.c1
  obtain ⟨b, hb⟩ : ∃ b, b = (fr1 i).blk := ⟨_, rfl⟩
  rw [← hb]
  have HB := Lib.hid hb; have HAT := Lib.hid hat
  clear hM hD hL hW hS hb hat c4 hl HR c1
  have g1 : w1.heap[b]? = some (.cells (frCells (fr1 i)) 134 (0, 0)) := by rw [HB.out]; exact (HM.out.frame hi).2.1
  have c0 := HM.out.c0
  have lb := lt_of_at g1
  have hr : frCells (fr1 i) = #[.int .i64 (fr1 i).page, (fr1 i).bv, .int .i64 (fr1 i).pins, .bool (fr1 i).changed, .bool (fr1 i).lately] := rfl
  have hmk := make_page
  have hbp : b ≠ p := by rw [HB.out]; exact ne_of_tag (HM.out.frame hi).1 HM.out.tag (by simp)
  have G1 := Lib.hid g1
  clear g1 hr
  generalize hza : (cells (zeros 512)).toArray = za at hmk
  have HZ := Lib.hid hza
  clear hza
  go_wp2_with (with_reducible refine hold_store 134 _ _ rfl ?_)
  unfold Hold
  obtain ⟨nb, hnb⟩ : ∃ nb, nb = w1.heap.size := ⟨_, rfl⟩
  rw [← hnb]
  have lbn : b < nb := by omega
  refine wpList_store_row rfl _ _ _ rfl b #[.int .i64 page, .slice (some ⟨nb, 0, none⟩) 512 512, .int .i64 0, .bool false, .bool false] rfl rfl 134 _ ((alloc_old lb).trans G1.out) (by simpa using size_frame) rfl (by simp [Value.oneCell']) ?_
  generalize hV : World.setRow (w1.alloc (Obj.cells za 5)) b #[.int .i64 page, .slice (some ⟨nb, 0, none⟩) 512 512, .int .i64 0, .bool false, .bool false] = V
  have gV : V.heap[b]? = some (.cells #[.int .i64 page, .slice (some ⟨nb, 0, none⟩) 512 512, .int .i64 0, .bool false, .bool false] 134 (0, 0)) := by rw [← hV]; exact row_same ((alloc_old lb).trans G1.out)
  have nV : V.heap[nb]? = some (.cells za 5 (0, 0)) := by rw [← hV, row_other (by omega), hnb]; exact alloc_new
  have s1 : Step (fun t => t == .frame i || t == .fbytes i) w1 T1 V (T1.put nb (.fbytes i)) := by
    rw [← hV, hnb]
    refine ((Step.refl HS.out.fresh).allocTag _ (by simp)).setRow ?_
    rw [Tags.put_other _ _ (by omega), HB.out, (HM.out.frame hi).1]
    simp
  have hzs : (zeros 512).length = 512 := zeros_length 512
  have fV : FrameW V (T1.put nb (.fbytes i)) i { page := page, bytes := zeros 512, pins := 0, changed := false, lately := false, blk := b, bv := .slice (some ⟨nb, 0, none⟩) 512 512 } := by
    refine ⟨?_, gV, ?_⟩
    · rw [Tags.put_other _ _ (by show b ≠ nb; omega)]
      show T1 b = _
      rw [HB.out]; exact (HM.out.frame hi).1
    · show RowT V _ _ _ 1 (.slice (some ⟨nb, 0, none⟩) 512 512) (zeros 512).length (cells (zeros 512))
      rw [hzs]
      refine RowT.mk (by rw [cells_length, hzs]) (Tags.put_same _ _ _) nV (Nat.le_refl _) (by unfold maxLen; omega) ?_ ?_
      · rw [← HZ.out]
        show (cells (zeros 512)).toArray.size = _
        rw [List.size_toArray, cells_length, hzs]
      · rw [← HZ.out, List.take_of_length_le (by show (cells (zeros 512)).toArray.toList.length ≤ _; rw [List.toList_toArray, cells_length, hzs]; omega)]
  have MV : PoolM V (T1.put nb (.fbytes i)) p d most n' hand' (upd fr1 i _) at1 := HM.out.setFrame i _ HB.out s1 fV
  have DV : DiskR V (T1.put nb (.fbytes i)) d f1 nr1 := HD.out.kept s1 (fun t ht => by cases t <;> first | rfl | cases ht)
  have HMV := Lib.hid MV; have HDV := Lib.hid DV; have HS1 := Lib.hid s1
  have c0 := MV.c0
  have hflen : (f1 1).length ≤ 2097152 := HL.out.flen
  obtain ⟨fl, hfl⟩ : ∃ fl, fl = (f1 1).length := ⟨_, rfl⟩
  have hsz : Calls Try.prog 74 #[ptr d, .int .i64 1] V fun e w' => e = .returned (.int .i64 fl) ∧ V = w' := by
    rw [hfl]
    exact disk_size' (I := 1) d 1 (by omega) rfl V _ f1 nr1 DV
  rw [← hfl] at hflen
  have HFL := Lib.hid hfl
  have nV0 := nV
  clear hV MV DV s1 fV gV nV hfl hmk hzs hnb
  have sT : Step isPool w T V (T1.put nb (.fbytes i)) := HS.out.trans (HS1.out.mono (fun t ht => by simp at ht; rcases ht with h | h <;> rw [h] <;> rfl))
  have HST := Lib.hid sT
  clear sT
  by_cases hz : fl ≤ page * 512
  · have hz1 : (fl : Int) - page * 512 ≤ 0 := by omega
    have hpg : zeros 512 = pg (f1 1) page := (pg_zero _ _ (by rw [← HFL.out]; exact hz)).symm
    have HPG := Lib.hid hpg
    clear hpg hz
    have hrd : True := trivial
    have hMF := (HMV.out.frame hi)
    rw [upd_same] at hMF
    obtain ⟨m2, o2, c4, hput, hM4, hS4⟩ := PoolM.put HST.out.fresh HMV.out (page : Int) i
    rw [upd_same] at hput
    have hF4 := hM4.frame hi
    rw [upd_same] at hF4
    have k2 : (putObj V m2 o2).cell? ⟨b, 2, none⟩ = some (.int .i64 0) := hF4.cell 2
    have k4 : (putObj V m2 o2).cell? ⟨b, 4, none⟩ = some (.bool false) := hF4.cell 4
    have z2 : (putObj V m2 o2).frozen? ⟨b, 2, none⟩ = false := hF4.froz 2
    have z4 : (putObj V m2 o2).frozen? ⟨b, 4, none⟩ = false := hF4.froz 4
    have HM4 := Lib.hid hM4; have HS4 := Lib.hid hS4
    clear hM4 hS4 hF4 hMF
    go_wp2_with (first | (go_at_call 74; refine hsz.mono ?_; rintro e w' ⟨rfl, rfl⟩) | (go_at_call 73; refine (hrd _ (by omega)).mono ?_; rintro e w' ⟨rfl, rfl⟩))
    all_goals
      go_ret
      have D4 : DiskR (putObj V m2 o2) (T1.put nb (.fbytes i)) d f1 nr1 := HDV.out.kept HS4.out (fun t ht => by cases t <;> first | rfl | cases ht)
      have t1 : Step isPool w T (putObj V m2 o2) (T1.put nb (.fbytes i)) := HST.out.trans (HS4.out.mono (fun t ht => by unfold isPool; rw [ht]; rfl))
      have M5 := HM4.out.setFr t1.fresh hi 2 (.int .i64 1) { page := page, bytes := (zeros 512), pins := 1, changed := false, lately := false, blk := b, bv := .slice (some ⟨nb, 0, none⟩) 512 512 } (by rw [upd_same]; rfl) (by rw [upd_same]) (by rw [upd_same]) (by rw [upd_same])
      have s5 : Step (fun t => t == .frame i) (putObj V m2 o2) (T1.put nb (.fbytes i)) ((putObj V m2 o2).setCell ⟨b, 2, none⟩ (.int .i64 1)) (T1.put nb (.fbytes i)) := by
        have h := (HM4.out.frame hi).1
        rw [upd_same] at h
        exact (Step.refl t1.fresh).setCell (by rw [h]; simp)
      rw [upd_same] at M5
      have M6 := M5.setFr s5.fresh hi 4 (.bool true) { page := page, bytes := (zeros 512), pins := 1, changed := false, lately := true, blk := b, bv := .slice (some ⟨nb, 0, none⟩) 512 512 } (by rw [upd_same]; rfl) (by rw [upd_same]) (by rw [upd_same]) (by rw [upd_same])
      rw [upd_same] at M6
      have s6 := s5.setCell (b := b) (o := 4) (v := .bool true) (by
        have h := (HM4.out.frame hi).1
        rw [upd_same] at h
        rw [h]; simp)
      rw [upd_upd, upd_upd] at M6
      refine ⟨rfl, T1.put nb (.fbytes i), f1, ⟨n', most, hand', _, _, nr1, i, M6, D4.kept s6 (fun t ht => by cases t <;> first | rfl | cases ht), ?_, mupd_same _ _ _⟩, HW.out, t1.trans (s6.mono (fun t ht => by rw [beq_iff_eq] at ht; rw [ht]; rfl))⟩
      exact HL.out.fill hi _ (HAT.out _ HA.out) hp rfl (by first | exact HPG.out | rfl) rfl rfl
  · obtain ⟨mn, hmn⟩ : ∃ mn, mn = min (fl - page * 512) 512 := ⟨_, rfl⟩
    have hpg : lay (zeros 512) 0 (((f1 1).drop (page * 512)).take mn) = pg (f1 1) page := pg_of _ _ _ (by rw [← HFL.out]; exact hmn)
    obtain ⟨sv, hsv⟩ : ∃ sv : ByteArray, str (((f1 1).drop (page * 512)).take mn) = .string sv := ⟨_, rfl⟩
    have hsd : sv.data.toList = ((f1 1).drop (page * 512)).take mn := by
      unfold str at hsv
      cases hsv
      exact str_data _
    have hss : sv.size = mn := by
      have h1 : sv.data.toList.length = sv.size := rfl
      rw [hsd, List.length_take, List.length_drop, ← HFL.out] at h1
      omega
    have hzs : (zeros 512).length = 512 := zeros_length 512
    have hF := HMV.out.frame hi
    rw [upd_same] at hF
    have nV : V.heap[nb]? = some (.cells za 5 (0, 0)) := nV0
    have hza : za.size = 512 := by rw [← HZ.out, List.size_toArray, cells_length, hzs]
    have hcp := run_copy_str (P := Try.prog) V 69 9 3 5 nb 0 512 512 sv za 5 (0, 0) und_bytes size_u8 nV (.inl rfl) (by omega) (by omega)
    obtain ⟨W, hW⟩ : ∃ W, W = V.setRow nb (lay za.toList 0 (cells sv.data.toList)).toArray := ⟨_, rfl⟩
    rw [← hW] at hcp
    have lz : lay za.toList 0 (cells sv.data.toList) = cells (pg (f1 1) page) := by
      rw [← HZ.out, List.toList_toArray, lay_cells, hsd, hpg]
    rw [lz] at hW
    have gW : W.heap[nb]? = some (.cells (cells (pg (f1 1) page)).toArray 5 (0, 0)) := by rw [hW]; exact row_same nV
    have sW : Step (fun t => t == .frame i || t == .fbytes i) V (T1.put nb (.fbytes i)) W (T1.put nb (.fbytes i)) := by
      rw [hW]
      exact (Step.refl HST.out.fresh).setRow (by rw [Tags.put_same]; simp)
    have fW : FrameW W (T1.put nb (.fbytes i)) i { page := page, bytes := pg (f1 1) page, pins := 0, changed := false, lately := false, blk := b, bv := .slice (some ⟨nb, 0, none⟩) 512 512 } := by
      refine ⟨hF.1, ?_, ?_⟩
      · rw [hW, row_other (by show nb ≠ b; omega)]; exact hF.2.1
      · show RowT W _ _ _ 1 (.slice (some ⟨nb, 0, none⟩) 512 512) (pg (f1 1) page).length (cells (pg (f1 1) page))
        rw [pg_length]
        refine RowT.mk (by rw [cells_length, pg_length]) (Tags.put_same _ _ _) gW (Nat.le_refl _) (by unfold maxLen; omega) ?_ ?_
        · rw [List.size_toArray, cells_length, pg_length]
        · rw [List.take_of_length_le (by rw [List.toList_toArray, cells_length, pg_length]; omega)]
    have MW := HMV.out.setFrame i _ (by rw [upd_same]) sW fW
    rw [upd_upd] at MW
    have DW := HDV.out.kept sW (fun t ht => by cases t <;> first | rfl | cases ht)
    have SW := HST.out.trans (sW.mono (D := isPool) (fun t ht => by simp at ht; rcases ht with h | h <;> rw [h] <;> rfl))
    have k1 : V.cell? ⟨b, 1, none⟩ = some (.slice (some ⟨nb, 0, none⟩) 512 512) := hF.cell 1
    have DV := HDV.out
    clear HMV HDV HST hF
    have HMV := Lib.hid MW; have HDV := Lib.hid DW; have HST := Lib.hid SW
    have HPG : Hid (pg (f1 1) page = pg (f1 1) page) := Lib.hid rfl
    have c0 := HMV.out.c0
    have HMN := Lib.hid hmn; have HSV := Lib.hid hsv
    clear MW DW SW fW gW sW hW lz hpg hsd hzs hza nV hmn hsv hss nV0
    have hz1 : 0 < (fl : Int) - page * 512 := by omega
    have hrd : ∀ M : Int, M = min ((fl : Int) - page * 512) 512 → Calls Try.prog 73 #[ptr d, .int .i64 1, .int .i64 (page * 512), .int .i64 M] V fun e w' => e = .returned (.tuple #[.string sv, .int .i64 0]) ∧ V = w' := by
      intro M hM
      rw [← HSV.out]
      have hmn := HMN.out
      exact disk_read' (I := 1) (A := (page * 512 : Int)) (M := M) d 1 (by omega) (page * 512) mn rfl (by omega) (by omega) V _ f1 nr1 DV (by rw [← HFL.out]; omega)
    clear DV
    have hMF := (HMV.out.frame hi)
    rw [upd_same] at hMF
    obtain ⟨m2, o2, c4, hput, hM4, hS4⟩ := PoolM.put HST.out.fresh HMV.out (page : Int) i
    rw [upd_same] at hput
    have hF4 := hM4.frame hi
    rw [upd_same] at hF4
    have k2 : (putObj W m2 o2).cell? ⟨b, 2, none⟩ = some (.int .i64 0) := hF4.cell 2
    have k4 : (putObj W m2 o2).cell? ⟨b, 4, none⟩ = some (.bool false) := hF4.cell 4
    have z2 : (putObj W m2 o2).frozen? ⟨b, 2, none⟩ = false := hF4.froz 2
    have z4 : (putObj W m2 o2).frozen? ⟨b, 4, none⟩ = false := hF4.froz 4
    have HM4 := Lib.hid hM4; have HS4 := Lib.hid hS4
    clear hM4 hS4 hF4 hMF
    go_wp2_with (first | (go_at_call 74; refine hsz.mono ?_; rintro e w' ⟨rfl, rfl⟩) | (go_at_call 73; refine (hrd _ (by omega)).mono ?_; rintro e w' ⟨rfl, rfl⟩))
    all_goals
      go_ret
      have D4 : DiskR (putObj W m2 o2) (T1.put nb (.fbytes i)) d f1 nr1 := HDV.out.kept HS4.out (fun t ht => by cases t <;> first | rfl | cases ht)
      have t1 : Step isPool w T (putObj W m2 o2) (T1.put nb (.fbytes i)) := HST.out.trans (HS4.out.mono (fun t ht => by unfold isPool; rw [ht]; rfl))
      have M5 := HM4.out.setFr t1.fresh hi 2 (.int .i64 1) { page := page, bytes := (pg (f1 1) page), pins := 1, changed := false, lately := false, blk := b, bv := .slice (some ⟨nb, 0, none⟩) 512 512 } (by rw [upd_same]; rfl) (by rw [upd_same]) (by rw [upd_same]) (by rw [upd_same])
      have s5 : Step (fun t => t == .frame i) (putObj W m2 o2) (T1.put nb (.fbytes i)) ((putObj W m2 o2).setCell ⟨b, 2, none⟩ (.int .i64 1)) (T1.put nb (.fbytes i)) := by
        have h := (HM4.out.frame hi).1
        rw [upd_same] at h
        exact (Step.refl t1.fresh).setCell (by rw [h]; simp)
      rw [upd_same] at M5
      have M6 := M5.setFr s5.fresh hi 4 (.bool true) { page := page, bytes := (pg (f1 1) page), pins := 1, changed := false, lately := true, blk := b, bv := .slice (some ⟨nb, 0, none⟩) 512 512 } (by rw [upd_same]; rfl) (by rw [upd_same]) (by rw [upd_same]) (by rw [upd_same])
      rw [upd_same] at M6
      have s6 := s5.setCell (b := b) (o := 4) (v := .bool true) (by
        have h := (HM4.out.frame hi).1
        rw [upd_same] at h
        rw [h]; simp)
      rw [upd_upd, upd_upd] at M6
      refine ⟨rfl, T1.put nb (.fbytes i), f1, ⟨n', most, hand', _, _, nr1, i, M6, D4.kept s6 (fun t ht => by cases t <;> first | rfl | cases ht), ?_, mupd_same _ _ _⟩, HW.out, t1.trans (s6.mono (fun t ht => by rw [beq_iff_eq] at ht; rw [ht]; rfl))⟩
      exact HL.out.fill hi _ (HAT.out _ HA.out) hp rfl (by first | exact HPG.out | rfl) rfl rfl

end Go.Proofs.Ytiolpfneppchnaa
