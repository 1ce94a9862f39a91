/- SpaceOver: actions and spaces that nobody made, or that are over; the walk of the law. -/
import Derived.Test.YtiolpfneppchnaaVsRoom
namespace Go.Proofs.Ytiolpfneppchnaa
open Go Go.RowKit Go.Vs

/-- an action that is none, or over: what it answers. -/
def DeadA (w : World) (v : Value) (k : Int) : Prop :=
  (v = .pointer none ∧ k = 1) ∨ (∃ b, v = ptr b ∧ w.cell? ⟨b, 0, none⟩ = some (.pointer none) ∧ k = 1) ∨ (∃ b s, v = ptr b ∧ w.cell? ⟨b, 0, none⟩ = some (ptr s) ∧ w.cell? ⟨b, 3, none⟩ = some (.bool true) ∧ k = 5)

theorem DeadA.k {w : World} {v : Value} {k : Int} (h : DeadA w v k) : k = 1 ∨ k = 5 := by
  rcases h with ⟨_, h⟩ | ⟨_, _, _, h⟩ | ⟨_, _, _, _, _, h⟩
  · exact .inl h
  · exact .inl h
  · exact .inr h

theorem dead_going (v : Value) (k : Int) (w : World) (h : DeadA w v k) :
    Calls Try.prog 42 #[v] w fun e w' => e = .returned (.int .i64 k) ∧ w = w' := by
  rcases h with ⟨rfl, rfl⟩ | ⟨b, rfl, c0, rfl⟩ | ⟨b, s, rfl, c0, c3, rfl⟩
  · go_enter Try.func42, Try.ntmps42
    go_wp2
    go_ret
    exact ⟨rfl, rfl⟩
  · go_enter Try.func42, Try.ntmps42
    go_wp2
    go_ret
    exact ⟨rfl, rfl⟩
  · exact act_going b s true w c0 c3

theorem dead_there (v : Value) (k : Int) (n : Int) (w : World) (h : DeadA w v k) :
    Calls Try.prog 47 #[v, .int .i64 n] w fun e w' => e = .returned (.int .i64 k) ∧ w = w' := by
  have hg := dead_going v k w h
  rcases h.k with rfl | rfl
  all_goals
    clear h
    go_enter Try.func47, Try.ntmps47
    go_wp2_with (go_at_call 42; refine hg.mono ?_; rintro e w' ⟨rfl, rfl⟩)
    go_ret
    exact ⟨rfl, rfl⟩

theorem dead_read (v : Value) (k : Int) (n : Int) (w : World) (h : DeadA w v k) :
    Calls Try.prog 16 #[v, .int .i64 n] w fun e w' => e = .returned (.tuple #[.string ⟨#[]⟩, .int .i64 k]) ∧ w = w' := by
  have hg := dead_there v k n w h
  rcases h.k with rfl | rfl
  all_goals
    clear h
    go_enter Try.func16, Try.ntmps16
    go_wp2_with (go_at_call 47; refine hg.mono ?_; rintro e w' ⟨rfl, rfl⟩)
    go_ret2
    exact ⟨rfl, rfl⟩

theorem dead_write (v : Value) (k : Int) (n m : Int) (s : ByteArray) (w : World) (h : DeadA w v k) :
    Calls Try.prog 18 #[v, .int .i64 n, .int .i64 m, .string s] w fun e w' => e = .returned (.int .i64 k) ∧ w = w' := by
  have hg := dead_there v k n w h
  rcases h.k with rfl | rfl
  all_goals
    clear h
    go_enter Try.func18, Try.ntmps18
    go_wp2_with (go_at_call 47; refine hg.mono ?_; rintro e w' ⟨rfl, rfl⟩)
    go_ret
    exact ⟨rfl, rfl⟩

theorem dead_free (v : Value) (k : Int) (n : Int) (w : World) (h : DeadA w v k) :
    Calls Try.prog 12 #[v, .int .i64 n] w fun e w' => e = .returned (.int .i64 k) ∧ w = w' := by
  have hg := dead_there v k n w h
  rcases h.k with rfl | rfl
  all_goals
    clear h
    go_enter Try.func12, Try.ntmps12
    go_wp2_with (go_at_call 47; refine hg.mono ?_; rintro e w' ⟨rfl, rfl⟩)
    go_ret
    exact ⟨rfl, rfl⟩

theorem dead_alloc (v : Value) (k : Int) (w : World) (h : DeadA w v k) :
    Calls Try.prog 11 #[v] w fun e w' => e = .returned (.tuple #[.int .i64 0, .int .i64 k]) ∧ w = w' := by
  have hg := dead_going v k w h
  rcases h.k with rfl | rfl
  all_goals
    clear h
    go_enter Try.func11, Try.ntmps11
    go_wp2_with (go_at_call 42; refine hg.mono ?_; rintro e w' ⟨rfl, rfl⟩)
    go_ret2
    exact ⟨rfl, rfl⟩

theorem dead_root (v : Value) (k : Int) (n : Int) (w : World) (h : DeadA w v k) :
    Calls Try.prog 17 #[v, .int .i64 n] w fun e w' => e = .returned (.tuple #[.int .i64 0, .int .i64 k]) ∧ w = w' := by
  have hg := dead_going v k w h
  rcases h.k with rfl | rfl
  all_goals
    clear h
    go_enter Try.func17, Try.ntmps17
    go_wp2_with (go_at_call 42; refine hg.mono ?_; rintro e w' ⟨rfl, rfl⟩)
    go_ret2
    exact ⟨rfl, rfl⟩

theorem dead_setRoot (v : Value) (k : Int) (n m : Int) (w : World) (h : DeadA w v k) :
    Calls Try.prog 19 #[v, .int .i64 n, .int .i64 m] w fun e w' => e = .returned (.int .i64 k) ∧ w = w' := by
  have hg := dead_going v k w h
  rcases h.k with rfl | rfl
  all_goals
    clear h
    go_enter Try.func19, Try.ntmps19
    go_wp2_with (go_at_call 42; refine hg.mono ?_; rintro e w' ⟨rfl, rfl⟩)
    go_ret
    exact ⟨rfl, rfl⟩

set_option maxRecDepth 100000 in
theorem dead_commit (v : Value) (k : Int) (w : World) (h : DeadA w v k) :
    Calls Try.prog 20 #[v] w fun e w' => e = .returned (.int .i64 k) ∧ w = w' := by
  have hg := dead_going v k w h
  rcases h.k with rfl | rfl
  all_goals
    clear h
    go_enter Try.func20, Try.ntmps20
    go_wp2_with (go_at_call 42; refine hg.mono ?_; rintro e w' ⟨rfl, rfl⟩)
    go_ret
    exact ⟨rfl, rfl⟩

theorem dead_abort (v : Value) (k : Int) (w : World) (h : DeadA w v k) :
    Calls Try.prog 13 #[v] w fun e w' => e = .returned (.int .i64 k) ∧ w = w' := by
  have hg := dead_going v k w h
  rcases h.k with rfl | rfl
  all_goals
    clear h
    go_enter Try.func13, Try.ntmps13
    go_wp2_with (go_at_call 42; refine hg.mono ?_; rintro e w' ⟨rfl, rfl⟩)
    go_ret
    exact ⟨rfl, rfl⟩

/-- a space that is none. -/
def DeadS (w : World) (v : Value) : Prop := v = .pointer none ∨ ∃ b, v = ptr b ∧ w.cell? ⟨b, 1, none⟩ = some (.pointer none)

theorem deadS_given (v : Value) (w : World) (h : DeadS w v) :
    Calls Try.prog 41 #[v] w fun e w' => e = .returned (.bool false) ∧ w = w' := by
  rcases h with rfl | ⟨b, rfl, c1⟩
  all_goals
    go_enter Try.func41, Try.ntmps41
    go_wp2
    go_ret
    exact ⟨rfl, rfl⟩

theorem deadS_begin (v : Value) (w : World) (h : DeadS w v) :
    Calls Try.prog 10 #[v] w fun e w' => e = .returned (.tuple #[.pointer none, .int .i64 1]) ∧ w = w' := by
  have hg := deadS_given v w h
  clear h
  go_enter Try.func10, Try.ntmps10
  go_wp2_with (go_at_call 41; refine hg.mono ?_; rintro e w' ⟨rfl, rfl⟩)
  go_ret2
  exact ⟨rfl, rfl⟩

theorem deadS_pages (v : Value) (w : World) (h : DeadS w v) :
    Calls Try.prog 21 #[v] w fun e w' => e = .returned (.tuple #[.int .i64 0, .slice none 0 0]) ∧ w = w' := by
  have hg := deadS_given v w h
  clear h
  go_enter Try.func21, Try.ntmps21
  go_wp2_with (go_at_call 41; refine hg.mono ?_; rintro e w' ⟨rfl, rfl⟩)
  go_ret2
  exact ⟨rfl, rfl⟩

theorem deadS_checkpoint (v : Value) (w : World) (h : DeadS w v) :
    Calls Try.prog 22 #[v] w fun e w' => e = .returned (.int .i64 1) ∧ w = w' := by
  have hg := deadS_given v w h
  clear h
  go_enter Try.func22, Try.ntmps22
  go_wp2_with (go_at_call 41; refine hg.mono ?_; rintro e w' ⟨rfl, rfl⟩)
  go_ret
  exact ⟨rfl, rfl⟩

theorem deadS_pinned (v : Value) (w : World) (h : DeadS w v) :
    Calls Try.prog 23 #[v] w fun e w' => e = .returned (.int .i64 0) ∧ w = w' := by
  have hg := deadS_given v w h
  clear h
  go_enter Try.func23, Try.ntmps23
  go_wp2_with (go_at_call 41; refine hg.mono ?_; rintro e w' ⟨rfl, rfl⟩)
  go_ret
  exact ⟨rfl, rfl⟩



set_option maxRecDepth 100000 in
set_option maxHeartbeats 3200000 in
theorem law_over (a0 : Int) (a1 : ByteArray) (w : World) :
    Calls Try.prog 4 #[.int .i64 a0, .string a1] w fun e w' => e = .returned (.bool true) ∧ Below w.heap.size w w' := by
  have o0 := Own.start w
  have hdn := disk_new w _ o0.fresh
  have O0 := Lib.hid o0
  clear o0
  go_enter Try.func4, Try.ntmps4
  go_wp2_with fail
  refine hdn.mono ?_
  rintro e1 w1 ⟨rfl, T1, hD1, hS1⟩
  obtain ⟨d, hd⟩ : ∃ d, d = w.heap.size := ⟨_, rfl⟩
  rw [← hd] at hD1 ⊢
  have hop := open_new d 4 w1 T1 hS1.fresh hD1 (by omega) (by omega)
  have HOP := Lib.hid hop; have O1 := Lib.hid (O0.out.step hS1 rfl)
  clear hd hdn hop hD1 hS1 O0
  go_wp2_with fail
  refine HOP.out.mono ?_
  rintro e2 w2 ⟨s, rfl, _, T2, hR2, hS2⟩
  have hbg := space_begin s d 0 K0 [] w2 T2 hS2.fresh hR2
  have HBG := Lib.hid hbg; have O2 := Lib.hid (O1.out.step hS2 rfl)
  clear hbg hR2 hS2 HOP O1
  go_wp2_with fail
  refine HBG.out.mono ?_
  rintro e3 w3 ⟨E, rfl, ⟨hEs, hEd, hEK, hEN, hEf⟩, _, _, T3, hA3, hS3⟩
  have hab := act_abort E [] _ w3 T3 hS3.fresh hA3 (by rw [hEK]; exact Meta0) hEf
  have HAB := Lib.hid hab; have O3 := Lib.hid (O2.out.step hS3 rfl)
  have HEs := Lib.hid hEs; have HEd := Lib.hid hEd; have HEK := Lib.hid hEK; have HEN := Lib.hid hEN
  clear hab hA3 hS3 HBG O2 hEs hEd hEK hEN hEf
  go_wp2_with fail
  refine HAB.out.mono ?_
  rintro e4 w4 ⟨rfl, hR4, ⟨hTa, c0, c3⟩, hS4⟩
  rw [HEs.out, HEd.out, HEK.out, HEN.out] at hR4
  have O4 := Lib.hid (O3.out.step hS4 rfl); have HR4 := Lib.hid hR4
  clear hR4 hS4 HAB O3
  obtain ⟨a, ha⟩ : ∃ a, a = E.a := ⟨_, rfl⟩
  rw [← ha] at c0 c3 ⊢
  have la := World.block_lt_of_cell? w4 _ c0
  obtain ⟨b, hb⟩ : ∃ b, b = w4.heap.size := ⟨_, rfl⟩
  obtain ⟨w5, hw5⟩ : ∃ w5, w5 = (w4.alloc (.cells #[.pointer none, .map none, .map none, .bool false] 47)).alloc (.cells #[.pointer none, ptr w4.heap.size, ptr a] 28) := ⟨_, rfl⟩
  have z5 : (w4.alloc (.cells #[.pointer none, .map none, .map none, .bool false] 47)).heap.size = b + 1 := by rw [hb]; exact alloc_size
  have h5b : w5.heap[b]? = some (.cells #[.pointer none, .map none, .map none, .bool false] 47 (0, 0)) := by
    rw [hw5, alloc_old (by rw [z5]; omega), hb]; exact alloc_new
  have h5c : w5.heap[b + 1]? = some (.cells #[.pointer none, ptr b, ptr a] 28 (0, 0)) := by
    have h := alloc_new (w := w4.alloc (.cells #[.pointer none, .map none, .map none, .bool false] 47)) (o := .cells #[.pointer none, ptr w4.heap.size, ptr a] 28)
    rw [z5, ← hw5, ← hb] at h
    exact h
  have h5a : w5.heap[a]? = w4.heap[a]? := by rw [hw5, alloc_old (by rw [z5, hb]; exact Nat.lt_succ_of_lt la), alloc_old la]
  have s5 : Step (fun _ => false) w4 T3 w5 T3 := by rw [hw5]; exact ((Step.refl O4.out.fresh).alloc _).alloc _
  have d0 : DeadA w5 (.pointer none) 1 := .inl ⟨rfl, rfl⟩
  have d1 : DeadA w5 (ptr b) 1 := .inr (.inl ⟨b, rfl, by rw [cell_at h5b]; rfl, rfl⟩)
  have d2 : DeadA w5 (ptr a) 5 := .inr (.inr ⟨a, E.s, rfl, by simp only [World.cell?, h5a] at c0 ⊢; exact c0, by simp only [World.cell?, h5a] at c3 ⊢; exact c3, rfl⟩)
  have k0 : w5.cell? ⟨b + 1, 0, none⟩ = some (.pointer none) := by rw [cell_at h5c]; rfl
  have k1 : w5.cell? ⟨b + 1, 1, none⟩ = some (ptr b) := by rw [cell_at h5c]; rfl
  have k2 : w5.cell? ⟨b + 1, 2, none⟩ = some (ptr a) := by rw [cell_at h5c]; rfl
  have D0 := Lib.hid d0; have D1 := Lib.hid d1; have D2 := Lib.hid d2; have O5 := Lib.hid (O4.out.step s5 rfl); have HR5 := Lib.hid (HR4.out.kept s5 (fun _ _ => rfl))
  clear d0 d1 d2 s5 h5a h5b h5c z5 O4 HR4 la c0 c3 ha
  go_wp2_with fail
  rw [← hw5, ← hb]
  clear hw5 hb
  go_loop [10] (fun u10 => ∃ i : Nat, u10 = .int .i64 i ∧ i ≤ 3) (fun u10 => 3 - (intOf u10).toNat)
  case atStart => exact ⟨0, rfl, by omega⟩
  case round =>
    obtain ⟨i, rfl, hi⟩ := hrel
    have hcase : i = 0 ∨ i = 1 ∨ i = 2 ∨ i = 3 := by omega
    rcases hcase with rfl | rfl | rfl | rfl
    ·
      go_wp2_with (first
        | (go_at_call 16; refine (dead_read _ _ _ _ D0.out).mono ?_; rintro e w' ⟨rfl, rfl⟩)
        | (go_at_call 11; refine (dead_alloc _ _ _ D0.out).mono ?_; rintro e w' ⟨rfl, rfl⟩)
        | (go_at_call 17; refine (dead_root _ _ _ _ D0.out).mono ?_; rintro e w' ⟨rfl, rfl⟩)
        | (go_at_call 18; refine (dead_write _ _ _ _ _ _ D0.out).mono ?_; rintro e w' ⟨rfl, rfl⟩)
        | (go_at_call 12; refine (dead_free _ _ _ _ D0.out).mono ?_; rintro e w' ⟨rfl, rfl⟩)
        | (go_at_call 19; refine (dead_setRoot _ _ _ _ _ D0.out).mono ?_; rintro e w' ⟨rfl, rfl⟩)
        | (go_at_call 20; refine (dead_commit _ _ _ D0.out).mono ?_; rintro e w' ⟨rfl, rfl⟩)
        | (go_at_call 13; refine (dead_abort _ _ _ D0.out).mono ?_; rintro e w' ⟨rfl, rfl⟩))
      go_round
      case rel => exact ⟨1, by go_num, by omega⟩
      case measure => simp [intOf]
    ·
      go_wp2_with (first
        | (go_at_call 16; refine (dead_read _ _ _ _ D1.out).mono ?_; rintro e w' ⟨rfl, rfl⟩)
        | (go_at_call 11; refine (dead_alloc _ _ _ D1.out).mono ?_; rintro e w' ⟨rfl, rfl⟩)
        | (go_at_call 17; refine (dead_root _ _ _ _ D1.out).mono ?_; rintro e w' ⟨rfl, rfl⟩)
        | (go_at_call 18; refine (dead_write _ _ _ _ _ _ D1.out).mono ?_; rintro e w' ⟨rfl, rfl⟩)
        | (go_at_call 12; refine (dead_free _ _ _ _ D1.out).mono ?_; rintro e w' ⟨rfl, rfl⟩)
        | (go_at_call 19; refine (dead_setRoot _ _ _ _ _ D1.out).mono ?_; rintro e w' ⟨rfl, rfl⟩)
        | (go_at_call 20; refine (dead_commit _ _ _ D1.out).mono ?_; rintro e w' ⟨rfl, rfl⟩)
        | (go_at_call 13; refine (dead_abort _ _ _ D1.out).mono ?_; rintro e w' ⟨rfl, rfl⟩))
      go_round
      case rel => exact ⟨2, by go_num, by omega⟩
      case measure => simp [intOf]
    ·
      go_wp2_with (first
        | (go_at_call 16; refine (dead_read _ _ _ _ D2.out).mono ?_; rintro e w' ⟨rfl, rfl⟩)
        | (go_at_call 11; refine (dead_alloc _ _ _ D2.out).mono ?_; rintro e w' ⟨rfl, rfl⟩)
        | (go_at_call 17; refine (dead_root _ _ _ _ D2.out).mono ?_; rintro e w' ⟨rfl, rfl⟩)
        | (go_at_call 18; refine (dead_write _ _ _ _ _ _ D2.out).mono ?_; rintro e w' ⟨rfl, rfl⟩)
        | (go_at_call 12; refine (dead_free _ _ _ _ D2.out).mono ?_; rintro e w' ⟨rfl, rfl⟩)
        | (go_at_call 19; refine (dead_setRoot _ _ _ _ _ D2.out).mono ?_; rintro e w' ⟨rfl, rfl⟩)
        | (go_at_call 20; refine (dead_commit _ _ _ D2.out).mono ?_; rintro e w' ⟨rfl, rfl⟩)
        | (go_at_call 13; refine (dead_abort _ _ _ D2.out).mono ?_; rintro e w' ⟨rfl, rfl⟩))
      go_round
      case rel => exact ⟨3, by go_num, by omega⟩
      case measure => simp [intOf]
    · clear k0 k1 k2
      obtain ⟨c, hc⟩ : ∃ c, c = w5.heap.size := ⟨_, rfl⟩
      obtain ⟨w6, hw6⟩ : ∃ w6, w6 = (w5.alloc (.cells #[.pointer none, .pointer none, .pointer none, .map none] 57)).alloc (.cells #[.pointer none, ptr w5.heap.size] 22) := ⟨_, rfl⟩
      have z6 : (w5.alloc (.cells #[.pointer none, .pointer none, .pointer none, .map none] 57)).heap.size = c + 1 := by rw [hc]; exact alloc_size
      have h6b : w6.heap[c]? = some (.cells #[.pointer none, .pointer none, .pointer none, .map none] 57 (0, 0)) := by
        rw [hw6, alloc_old (by rw [z6]; omega), hc]; exact alloc_new
      have h6c : w6.heap[c + 1]? = some (.cells #[.pointer none, ptr c] 22 (0, 0)) := by
        have h := alloc_new (w := w5.alloc (.cells #[.pointer none, .pointer none, .pointer none, .map none] 57)) (o := .cells #[.pointer none, ptr w5.heap.size] 22)
        rw [z6, ← hw6, ← hc] at h
        exact h
      have s6 : Step (fun _ => false) w5 T3 w6 T3 := by rw [hw6]; exact ((Step.refl O5.out.fresh).alloc _).alloc _
      have e0 : DeadS w6 (.pointer none) := .inl rfl
      have e1 : DeadS w6 (ptr c) := .inr ⟨c, rfl, by rw [cell_at h6b]; rfl⟩
      have k0 : w6.cell? ⟨c + 1, 0, none⟩ = some (.pointer none) := by rw [cell_at h6c]; rfl
      have k1 : w6.cell? ⟨c + 1, 1, none⟩ = some (ptr c) := by rw [cell_at h6c]; rfl
      have E0 := Lib.hid e0; have E1 := Lib.hid e1; have O6 := Lib.hid (O5.out.step s6 rfl); have HR6 := Lib.hid (HR5.out.kept s6 (fun _ _ => rfl))
      clear e0 e1 s6 h6b h6c z6 O5 HR5
      go_wp2_with fail
      rw [← hw6, ← hc]
      clear hw6 hc
      go_loop [20] (fun u20 => ∃ i : Nat, u20 = .int .i64 i ∧ i ≤ 2) (fun u20 => 2 - (intOf u20).toNat)
      case atStart => exact ⟨0, rfl, by omega⟩
      case round =>
        obtain ⟨i, rfl, hi⟩ := hrel
        have hcase : i = 0 ∨ i = 1 ∨ i = 2 := by omega
        rcases hcase with rfl | rfl | rfl
        ·
          go_wp2_with (first
            | (go_at_call 10; refine (deadS_begin _ _ E0.out).mono ?_; rintro e w' ⟨rfl, rfl⟩)
            | (go_at_call 21; refine (deadS_pages _ _ E0.out).mono ?_; rintro e w' ⟨rfl, rfl⟩)
            | (go_at_call 22; refine (deadS_checkpoint _ _ E0.out).mono ?_; rintro e w' ⟨rfl, rfl⟩)
            | (go_at_call 23; refine (deadS_pinned _ _ E0.out).mono ?_; rintro e w' ⟨rfl, rfl⟩))
          go_round
          case rel => exact ⟨1, by go_num, by omega⟩
          case measure => simp [intOf]
        ·
          go_wp2_with (first
            | (go_at_call 10; refine (deadS_begin _ _ E1.out).mono ?_; rintro e w' ⟨rfl, rfl⟩)
            | (go_at_call 21; refine (deadS_pages _ _ E1.out).mono ?_; rintro e w' ⟨rfl, rfl⟩)
            | (go_at_call 22; refine (deadS_checkpoint _ _ E1.out).mono ?_; rintro e w' ⟨rfl, rfl⟩)
            | (go_at_call 23; refine (deadS_pinned _ _ E1.out).mono ?_; rintro e w' ⟨rfl, rfl⟩))
          go_round
          case rel => exact ⟨2, by go_num, by omega⟩
          case measure => simp [intOf]
        · clear k0 k1
          have hst := law_stands s d 0 K0 w6 T3 O6.out.fresh HR6.out (by omega) tot0 (fun k _ => root0 k)
          have HST := Lib.hid hst
          unfold zState at HST
          clear hst
          go_wp2_with fail
          refine HST.out.mono ?_
          rintro e11 w11 ⟨rfl, T11, _, hS11⟩
          have haw := law_awake5 w11 T11 hS11.fresh
          have HAW := Lib.hid haw; have O11 := Lib.hid (O6.out.step hS11 rfl)
          clear haw hS11 HST O6
          go_wp2_with fail
          refine HAW.out.mono ?_
          rintro e12 w12 ⟨rfl, T12, hS12⟩
          have O12 := Lib.hid (O11.out.step hS12 rfl)
          clear hS12 HAW O11
          go_wp2_with fail
          go_ret
          exact ⟨rfl, O12.out.below⟩
end Go.Proofs.Ytiolpfneppchnaa
