/- The log (layer 3). -/
import Derived.Test.YtiolpfneppchnaaVsNum
namespace Go.Proofs.Ytiolpfneppchnaa
open Go Go.RowKit Go.Vs

def LogR (w : World) (T : Tags) (l d e n : Nat) : Prop :=
  T l = .log ∧ w.heap[l]? = some (.cells #[.pointer (some ⟨d, 0, none⟩), .int .i64 e, .int .i64 n] 123 (0, 0))

def isLogD : Tag → Bool
  | .log => true
  | t => isDisk t

theorem LogR.kept {C : Tag → Bool} {w w' : World} {T T' : Tags} {l d e n : Nat} (h : LogR w T l d e n) (hs : Step C w T w' T') (hc : C .log = false) : LogR w' T' l d e n :=
  ⟨hs.tag h.2 h.1, hs.at h.2 (by rw [h.1]; exact hc)⟩

def AtCut (w1 : World) (T1 : Tags) (d : Nat) (f : Nat → Bs) (n : Nat) (w2 : World) : Prop := ∃ T2, DiskR w2 T2 d f n ∧ Step isDisk w1 T1 w2 T2

theorem str_size (b : Bs) : (⟨b.toArray⟩ : ByteArray).size = b.length := by simp [ByteArray.size]
theorem str_data (b : Bs) : (⟨b.toArray⟩ : ByteArray).data.toList = b := by simp

theorem nonempty_of {s : ByteArray} (h : 0 < s.size) : s.toList.isEmpty = false := by
  rw [ByteArray.toList_eq]
  cases hs : s.data.toList with
  | nil =>
    have h1 : s.data.toList.length = s.size := rfl
    rw [hs] at h1
    simp only [List.length_nil] at h1
    omega
  | cons => rfl

theorem upd_upd {α : Type} (f : Nat → α) (i : Nat) (x y : α) : upd (upd f i x) i y = upd f i y := by
  funext j; by_cases e : j = i <;> simp [upd, e]

set_option maxRecDepth 100000 in
set_option maxHeartbeats 800000 in
theorem log_append (l d e n : Nat) (s : ByteArray) (w : World) (T : Tags) (f : Nat → Bs) (nr : Nat) (hf : Fresh w T) (h : LogR w T l d e n) (hd : DiskR w T d f nr) (h0 : 0 < s.size) (h1 : s.size ≤ 1048576) (hfit : e + 4 + s.size ≤ 4194304) (hn : nr < 1099511627770) (hn2 : n < 4611686018427387904) :
    Calls Try.prog 51 #[.pointer (some ⟨l, 0, none⟩), .string s] w fun en w' => en = .returned (.int .i64 0) ∧
      ∃ T', LogR w' T' l d (e + 4 + s.size) (n + 1) ∧ DiskR w' T' d (upd f 0 (wr (wr (f 0) (e + 4) s.data.toList) e (be4 s.size))) (nr + 2) ∧ Step isLogD w T w' T' := by
  obtain ⟨hT, hl⟩ := h
  have ll := lt_of_at hl
  have c0 : w.cell? ⟨l, 0, none⟩ = some (.pointer (some ⟨d, 0, none⟩)) := by rw [cell_at hl]; rfl
  have c1 : w.cell? ⟨l, 1, none⟩ = some (.int .i64 e) := by rw [cell_at hl]; rfl
  have hne : s.toList.isEmpty = false := nonempty_of h0
  have hs1 : ¬ (1048576 : Int) < s.size := by omega
  have hs2 : ¬ (4194304 : Int) < (e : Int) + 4 + s.size := by omega
  have HD := Lib.hid hd
  clear hd
  go_enter Try.func51, Try.ntmps51
  go_wp2
  go_still_tail 10, (by kernel_rfl)
  change wpList _ _ _ _ _ w.drew
  generalize hW : w.drew = W
  have hfW : Fresh W T := by rw [← hW]; exact hf
  have HDW : DiskR W T d f nr := by rw [← hW]; exact HD.out
  have hlW : W.heap[l]? = w.heap[l]? := by rw [← hW]; rfl
  have hsW : Step isLogD w T W T := by rw [← hW]; exact (Step.refl hf).drew
  go_wp2_with fail
  refine (disk_write' d 0 (by omega) (e + 4) rfl (by first | omega | (rw [IntKind.wrap_i64]; omega)) s _ T f nr hfW HDW h0 (by omega) (by omega)).mono ?_
  rintro e1 w1 ⟨rfl, T1, hD1, hst1⟩
  have hl1 : w1.heap[l]? = _ := hst1.at (hlW.trans hl) (by rw [hT]; rfl)
  have hT1 : T1 l = .log := hst1.tag (hlW.trans hl) hT
  have c0 : w1.cell? ⟨l, 0, none⟩ = some (.pointer (some ⟨d, 0, none⟩)) := by rw [cell_at hl1]; rfl
  have c1 : w1.cell? ⟨l, 1, none⟩ = some (.int .i64 e) := by rw [cell_at hl1]; rfl
  clear hW hlW HDW hfW
  have ll1 := lt_of_at hl1
  have hconv := conv_be4 s.size (by omega) w1
  have HA : Hid (∀ o : Obj, Fresh (w1.alloc o).drew T1 ∧ DiskR (w1.alloc o).drew T1 d (upd f 0 (wr (f 0) (e + 4) s.data.toList)) (nr + 1)) :=
    fun o => ⟨(hst1.alloc o).fresh, (hD1.kept (((Step.refl (C := fun _ => false) hst1.fresh).alloc o).drew) (fun _ _ => rfl))⟩
  go_upto_region 9 with fail
  go_cut [65] (fun s65 wx => s65 = .int .i64 0 ∧ AtCut w1 T1 d (upd (upd f 0 (wr (f 0) (e + 4) s.data.toList)) 0 (wr (upd f 0 (wr (f 0) (e + 4) s.data.toList) 0) e (be4 s.size))) (nr + 1 + 1) wx)
  case first =>
    go_region_with (go_at_call 82; refine (disk_write' d 0 (by omega) e rfl rfl ⟨(be4 s.size).toArray⟩ _ T1 _ _ (HA.out _).1 (HA.out _).2 (by rw [str_size]; exact Nat.zero_lt_succ _) (by rw [str_size, be4_length]; omega) (by omega)).mono ?_; rintro e2 w2 ⟨rfl, T2, hD2, hst2⟩)
    all_goals
      go_wp2_with fail
      go_meet
      exact ⟨rfl, T2, by simpa only [str_data] using hD2, (((Step.refl (C := isDisk) hst1.fresh).alloc _).drew).trans hst2⟩
  case rest =>
    obtain ⟨rfl, T2, hD2, hst2⟩ := hcut
    have hl2 : wc.heap[l]? = _ := hst2.at hl1 (by rw [hT1]; rfl)
    have hT2 : T2 l = .log := hst2.tag hl1 hT1
    have c0 : wc.cell? ⟨l, 0, none⟩ = some (.pointer (some ⟨d, 0, none⟩)) := by rw [cell_at hl2]; rfl
    have c1 : wc.cell? ⟨l, 1, none⟩ = some (.int .i64 e) := by rw [cell_at hl2]; rfl
    have c2 : wc.cell? ⟨l, 2, none⟩ = some (.int .i64 n) := by rw [cell_at hl2]; rfl
    have z1 : wc.frozen? ⟨l, 1, none⟩ = false := froz_at hl2
    have z2 : wc.frozen? ⟨l, 2, none⟩ = false := froz_at hl2
    have HL := Lib.hid hl2
    clear hl2 hconv HA hl1 ll1
    go_wp2
    go_ret
    have g1 := set_same (o := 1) (v := .int .i64 ((e : Int) + (4 + s.size))) HL.out
    have g2 := set_same (o := 2) (v := .int .i64 ((n : Int) + 1)) g1
    have sc : Step isLogD w T wc T2 := hsW.trans ((hst1.trans hst2).mono (fun t ht => by cases t <;> first | rfl | exact ht))
    rw [upd_upd, upd_same] at hD2
    refine ⟨rfl, T2, ⟨hT2, ?_⟩, ?_, ?_⟩
    · rw [g2]
      have e1 : ((e : Int) + (4 + s.size)) = ((e + 4 + s.size : Nat) : Int) := by omega
      have e2 : ((n : Int) + 1) = ((n + 1 : Nat) : Int) := by omega
      rw [e1, e2]; rfl
    · have a1 : Step (fun t => t == .log) wc T2 ((wc.setCell ⟨l, 1, none⟩ (.int .i64 ((e : Int) + (4 + s.size)))).setCell ⟨l, 2, none⟩ (.int .i64 ((n : Int) + 1))) T2 :=
        ((Step.refl hst2.fresh).setCell (by rw [hT2]; rfl)).setCell (by rw [hT2]; rfl)
      exact hD2.kept a1 (fun t ht => by cases t <;> first | rfl | cases ht)
    · exact (sc.setCell (by rw [hT2]; rfl)).setCell (by rw [hT2]; rfl)
theorem log_append_full (l d e n : Nat) (s : ByteArray) (w : World) (T : Tags) (h : LogR w T l d e n) (h0 : 0 < s.size) (h1 : s.size ≤ 1048576) (hfit : 4194304 < e + 4 + s.size) (he : e ≤ 4194304) :
    Calls Try.prog 51 #[.pointer (some ⟨l, 0, none⟩), .string s] w fun en w' => en = .returned (.int .i64 2) ∧ w = w' := by
  obtain ⟨hT, hl⟩ := h
  have c0 : w.cell? ⟨l, 0, none⟩ = some (.pointer (some ⟨d, 0, none⟩)) := by rw [cell_at hl]; rfl
  have c1 : w.cell? ⟨l, 1, none⟩ = some (.int .i64 e) := by rw [cell_at hl]; rfl
  have hne : s.toList.isEmpty = false := nonempty_of h0
  have hs1 : ¬ (1048576 : Int) < s.size := by omega
  have hs2 : (4194304 : Int) < (e : Int) + 4 + s.size := by omega
  go_enter Try.func51, Try.ntmps51
  go_wp2
  go_ret
  exact ⟨rfl, rfl⟩

set_option maxHeartbeats 800000 in
theorem log_reset (l d e n : Nat) (w : World) (T : Tags) (f : Nat → Bs) (nr : Nat) (hf : Fresh w T) (h : LogR w T l d e n) (hd : DiskR w T d f nr) (hn : nr < 1099511627770) :
    Calls Try.prog 84 #[.pointer (some ⟨l, 0, none⟩)] w fun en w' => en = .returned (.int .i64 0) ∧
      ∃ T', LogR w' T' l d 0 0 ∧ DiskR w' T' d (upd f 0 []) (nr + 1) ∧ Step isLogD w T w' T' := by
  obtain ⟨hT, hl⟩ := h
  have c0 : w.cell? ⟨l, 0, none⟩ = some (.pointer (some ⟨d, 0, none⟩)) := by rw [cell_at hl]; rfl
  have HD := Lib.hid hd
  clear hd
  go_enter Try.func84, Try.ntmps84
  go_wp2_with fail
  refine (disk_trim' d 0 (by omega) 0 rfl rfl w T f nr hf HD.out (Nat.zero_le _) (by omega)).mono ?_
  rintro e1 w1 ⟨rfl, T1, hD1, hst1⟩
  have hl1 : w1.heap[l]? = _ := hst1.at hl (by rw [hT]; rfl)
  have hT1 : T1 l = .log := hst1.tag hl hT
  have k1 : w1.cell? ⟨l, 1, none⟩ = some (.int .i64 e) := by rw [cell_at hl1]; rfl
  have k2 : w1.cell? ⟨l, 2, none⟩ = some (.int .i64 n) := by rw [cell_at hl1]; rfl
  have z1 : w1.frozen? ⟨l, 1, none⟩ = false := froz_at hl1
  have z2 : w1.frozen? ⟨l, 2, none⟩ = false := froz_at hl1
  have HL := Lib.hid hl1
  clear hl1 c0
  go_wp2
  go_ret
  have g1 := set_same (o := 1) (v := .int .i64 0) HL.out
  have g2 := set_same (o := 2) (v := .int .i64 0) g1
  have sc : Step isLogD w T w1 T1 := hst1.mono (fun t ht => by cases t <;> first | rfl | exact ht)
  refine ⟨rfl, T1, ⟨hT1, g2⟩, ?_, (sc.setCell (by rw [hT1]; rfl)).setCell (by rw [hT1]; rfl)⟩
  have a1 : Step (fun t => t == .log) w1 T1 ((w1.setCell ⟨l, 1, none⟩ (.int .i64 0)).setCell ⟨l, 2, none⟩ (.int .i64 0)) T1 :=
    ((Step.refl hst1.fresh).setCell (by rw [hT1]; rfl)).setCell (by rw [hT1]; rfl)
  exact hD1.kept a1 (fun t ht => by cases t <;> first | rfl | cases ht)

end Go.Proofs.Ytiolpfneppchnaa
