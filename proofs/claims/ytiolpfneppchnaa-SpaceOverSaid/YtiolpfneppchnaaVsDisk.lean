/- The disk (layer 2): what each of its functions does to memory. -/
import Derived.Test.YtiolpfneppchnaaRows
import Derived.Test.YtiolpfneppchnaaVsOps2
import Derived.Deep.QuietTactic
import Derived.BigQuiet
import Derived.Lib.Hide
import Derived.Deep.RegionLaw
import Derived.Deep.RegionWith
import Derived.Deep.RegionHeld3
import Derived.StillTailTactics
import Derived.Deep.DeepCutAuto
import Derived.BigRegion
namespace Go.Proofs.Ytiolpfneppchnaa
open Go Go.RowKit Go.Vs

theorem info_u8 : (Try.prog.info? 5).map (fun i => (i.zero, i.size, i.bytes)) = some (some (.int .u8 0), 1, 1) := by kernel_rfl
theorem und_bytes : Try.prog.underlying 69 = some (.slice 5) := by kernel_rfl
theorem und_u8 : Try.prog.underlying 5 = some (.int .u8) := by kernel_rfl
theorem und_int : Try.prog.underlying 3 = some (.int .i64) := by kernel_rfl
theorem und_string : Try.prog.underlying 9 = some .string := by kernel_rfl
theorem und_raws : Try.prog.underlying 93 = some (.slice 163) := by kernel_rfl
theorem info_raw : (Try.prog.info? 163).map (fun i => (i.zero, i.size, i.bytes)) = some (some .nilIface, 1, 16) := by kernel_rfl
theorem size_u8 : (Try.prog.info? 5).map (·.size) = some 1 := by kernel_rfl

/-- a file's bytes. -/
def FileT (w : World) (T : Tags) (i : Nat) (v : Value) (bs : Bs) : Prop := RowT w T (.file i) 5 1 v bs.length (cells bs) ∧ bs.length ≤ 4194304

def diskCells (v : Nat → Value) (rv : Value) : Array Value := #[.bool true, v 0, v 1, .slice none 0 0, .slice none 0 0, rv]

theorem diskCells_get (v : Nat → Value) (rv : Value) {i : Nat} (hi : i < 2) : (diskCells v rv)[1 + i]? = some (v i) := by
  rcases (show i = 0 ∨ i = 1 by omega) with rfl | rfl <;> rfl

theorem diskCells_set (v : Nat → Value) (rv x : Value) {i : Nat} (hi : i < 2) : (diskCells v rv).setIfInBounds (1 + i) x = diskCells (upd v i x) rv := by
  rcases (show i = 0 ∨ i = 1 by omega) with rfl | rfl <;> rfl

def DiskR (w : World) (T : Tags) (d : Nat) (f : Nat → Bs) (n : Nat) : Prop :=
  T d = .disk ∧ ∃ v rv xs, w.heap[d]? = some (.cells (diskCells v rv) 95 (0, 0)) ∧
    (∀ i, i < 2 → FileT w T i (v i) (f i)) ∧ RowT w T .raws 163 1 rv n xs

def isDisk : Tag → Bool
  | .disk | .file _ | .raws => true
  | _ => false

def wr (old : Bs) (at' : Nat) (s : Bs) : Bs := lay (old ++ List.replicate (at' + s.length - old.length) 0) at' s

theorem cells_replicate (m : Nat) : cells (List.replicate m 0) = List.replicate m (.int .u8 0) := by simp [cells]

theorem wr_length (old : Bs) (at' : Nat) (s : Bs) : (wr old at' s).length = max old.length (at' + s.length) := by
  unfold wr
  rw [lay_length]
  · simp; omega
  · simp; omega

/-- the two ways of put.do's second half, as what they leave: the file's row holds the bytes laid over, the disk's cell shows it. -/
theorem put_ends {w W : World} {T : Tags} {g cap len at' : Nat} {cur : Array Value} {bs : Bs} {s : ByteArray} {i : Nat} (hT : T g = .file i)
    (hg : w.heap[g]? = some (.cells cur 5 (0, 0))) (hl : bs.length = len) (hc : len ≤ cap) (hm : cap ≤ maxLen) (hcs : cur.size = cap * 1) (ht : cur.toList.take (len * 1) = cells bs) (hin : at' + s.size ≤ len)
    (hW : W.heap[g]? = some (.cells (lay cur.toList at' (cells s.data.toList)).toArray 5 (0, 0))) (hb : len ≤ 4194304) :
    FileT W T i (.slice (some ⟨g, 0, none⟩) len cap) (lay bs at' s.data.toList) := by
  have hls : s.data.toList.length = s.size := rfl
  have hlen : (lay bs at' s.data.toList).length = len := by rw [lay_length _ _ _ (by rw [hls]; omega)]; exact hl
  refine ⟨?_, by omega⟩
  rw [hlen]
  refine RowT.mk (by rw [cells_length, hlen]; simp) hT hW hc hm ?_ ?_
  · simp only [List.size_toArray]
    rw [lay_length _ _ _ (by rw [cells_length, hls]; simp; omega)]
    simpa using hcs
  · simp only [Nat.mul_one] at ht ⊢
    rw [lay_take _ _ _ _ (by rw [cells_length, hls]; omega) (by simp; omega), ht, lay_cells]

theorem FileT.other {w w' : World} {T : Tags} {i : Nat} {v : Value} {bs : Bs} (h : FileT w T i v bs) (hs : ∀ k, T k = .file i → k < w.heap.size → w'.heap[k]? = w.heap[k]?) : FileT w' T i v bs :=
  ⟨h.1.other hs, h.2⟩

theorem FileT.kept {C : Tag → Bool} {w w' : World} {T T' : Tags} {i : Nat} {v : Value} {bs : Bs} (h : FileT w T i v bs) (hs : Step C w T w' T') (hc : C (.file i) = false) : FileT w' T' i v bs :=
  ⟨h.1.kept hs hc, h.2⟩


set_option maxHeartbeats 1600000 in
theorem put_do (d : Nat) (i : Nat) (hi : i < 2) (at' : Nat) (s : ByteArray) (w : World) (T : Tags) (f : Nat → Bs) (n : Nat) (hf : Fresh w T) (h : DiskR w T d f n) (h0 : 0 < s.size) (hb : at' + s.size ≤ 4194304) :
    Calls Try.prog 134 #[.agg #[.int .i64 i, .int .i64 at', .string s], .pointer (some ⟨d, 0, none⟩)] w fun e w' => e = .returned (.tuple #[]) ∧
      ∃ T', DiskR w' T' d (upd f i (wr (f i) at' s.data.toList)) n ∧ Step isDisk w T w' T' := by
  obtain ⟨hTd, v, rv, xs, hd, hF, hrw⟩ := h
  have ld := lt_of_at hd
  have hls : s.data.toList.length = s.size := rfl
  have hst0 : Step isDisk w T (w.alloc (Obj.cells #[Value.int IntKind.i64 ↑i, Value.int IntKind.i64 ↑at', Value.string s] 160)) T := (Step.refl hf).alloc _
  have hi4 : (i : Int) < 4 := by omega
  have c1 : w.cell? ⟨d, 1 + i, none⟩ = some (v i) := by rw [cell_at hd]; exact diskCells_get v rv hi
  have hFi := hF i hi
  by_cases hin : at' + s.size ≤ (f i).length
  · rcases hFi.1.cases with ⟨_, hl0, _⟩ | ⟨g, cap, cur, hval, hT, hg, hc, hm, hcs, ht⟩
    · omega
    · have hm' : cap ≤ maxLen := hm
      unfold maxLen at hm
      have lg := lt_of_at hg
      obtain ⟨len, hlen⟩ : ∃ x, x = (f i).length := ⟨_, rfl⟩
      have hb4 := hFi.2
      rw [← hlen] at hval hc ht hin hb4
      rw [hval] at c1
      have HL := Lib.hid hlen; have HV := Lib.hid hval
      clear hlen hval
      go_enter Try.func134, Try.ntmps134
      go_wp2
      go_quiet (fail)
      go_wp2
      generalize hW : World.drewN (w.alloc (Obj.cells #[Value.int IntKind.i64 ↑i, Value.int IntKind.i64 ↑at', Value.string s] 160)) nq = W
      have gW : W.heap[g]? = some (.cells cur 5 (0, 0)) := by rw [← hW]; exact (alloc_old lg).trans hg
      have dW : W.heap[d]? = some (.cells (diskCells v rv) 95 (0, 0)) := by rw [← hW]; exact (alloc_old ld).trans hd
      obtain ⟨p, hp⟩ : ∃ p, p = w.heap.size := ⟨_, rfl⟩
      rw [← hp]
      have pW : W.heap[p]? = some (.cells #[Value.int IntKind.i64 ↑i, Value.int IntKind.i64 ↑at', Value.string s] 160 (0, 0)) := by rw [← hW, hp]; exact alloc_new
      have hst : Step isDisk w T W T := by rw [← hW]; exact hst0.drewN _
      have hpg : p ≠ g := by omega
      have hdg : d ≠ g := ne_of_tag hTd hT (by simp)
      have oW : ∀ k, k < w.heap.size → W.heap[k]? = w.heap[k]? := by rw [← hW]; exact fun k hk => alloc_old hk
      have hF2 : ∀ j, j < 2 → j ≠ i → FileT W T j (v j) (f j) := fun j hj _ => (hF j hj).other (fun k _ hlt => oW k hlt)
      have hrw2 : RowT W T .raws 163 1 rv n xs := hrw.other (fun k _ hlt => oW k hlt)
      have hbs : (f i).length = len := HL.out.symm
      have hwr : wr (f i) at' s.data.toList = lay (f i) at' s.data.toList := by
        unfold wr
        rw [show at' + s.data.toList.length - (f i).length = 0 by rw [hls, hbs]; omega]
        simp
      have HW := Lib.hid hW; have HO := Lib.hid oW; have HB := Lib.hid hbs; have HP := Lib.hid hp; have HWR := Lib.hid hwr; have HF2 := Lib.hid hF2; have HFF := Lib.hid hF
      clear hW oW hbs hp c1 hwr hF2 hF
      have hcp := run_copy_str (P := Try.prog) W.drew 69 9 3 5 g at' (len - at') (cap - at') s cur 5 (0, 0) und_bytes size_u8 gW (.inl rfl) (by omega) (by omega)
      have hne : ¬ cap = at' := by omega
      have hs2 : at' ≤ len := by omega
      have q0 : W.cell? ⟨p, 0, none⟩ = some (Value.int IntKind.i64 ↑i) := by rw [cell_at pW]; rfl
      have q1 : W.cell? ⟨p, 1, none⟩ = some (Value.int IntKind.i64 ↑at') := by rw [cell_at pW]; rfl
      have q2 : W.cell? ⟨p, 2, none⟩ = some (Value.string s) := by rw [cell_at pW]; rfl
      have GW := Lib.hid gW; have DW := Lib.hid dW; have PW := Lib.hid pW
      clear gW dW pW
      go_region
      clear hcp q0 q1 q2 hne
      go_wp2
      generalize hV : World.setRow W.drew g (lay cur.toList at' (cells s.data.toList)).toArray = V
      have gV : V.heap[g]? = some (.cells (lay cur.toList at' (cells s.data.toList)).toArray 5 (0, 0)) := by rw [← hV]; exact row_same GW.out
      have oV : ∀ k, k ≠ g → V.heap[k]? = W.heap[k]? := by rw [← hV]; exact fun k hk => row_other (fun e => hk e.symm)
      have sV : Step isDisk W T V T := by rw [← hV]; exact ((Step.refl (C := isDisk) hst.fresh).drew).setRow (by rw [hT]; rfl)
      have q0 : V.cell? ⟨p, 0, none⟩ = some (Value.int IntKind.i64 ↑i) := by rw [cell_at ((oV p hpg).trans PW.out)]; rfl
      have k1 : V.cell? ⟨d, 1 + i, none⟩ = some (v i) := by rw [cell_at ((oV d hdg).trans DW.out)]; exact diskCells_get v rv hi
      have z1 : V.frozen? ⟨d, 1 + i, none⟩ = false := froz_at ((oV d hdg).trans DW.out)
      have GV := Lib.hid gV; have OV := Lib.hid oV
      clear gV oV hV
      go_region
      go_wp2
      go_end0
      have dd := set_same (o := 1 + i) (v := .slice (some ⟨g, 0, none⟩) len cap) ((OV.out d hdg).trans DW.out)
      rw [diskCells_set _ _ _ hi] at dd
      refine ⟨rfl, T, ⟨hTd, upd v i (.slice (some ⟨g, 0, none⟩) len cap), rv, xs, dd, ?_, ?_⟩, (hst.trans (sV.setCell (by rw [hTd]; rfl))).drew⟩
      · intro j hj
        by_cases e : j = i
        · subst e
          rw [upd_same, upd_same, HWR.out]
          exact put_ends hT GW.out HB.out hc hm' hcs ht (by omega) ((set_other hdg).trans GV.out) (by omega)
        · rw [upd_other _ _ e, upd_other _ _ e]
          exact (HF2.out j hj e).other (fun k hk _ => (set_other (fun e' => by rw [← e', hTd] at hk; cases hk)).trans (OV.out k (fun e' => by rw [e', hT] at hk; cases hk; exact e rfl)))
      · exact hrw2.other (fun k hk _ => (set_other (fun e' => by rw [← e', hTd] at hk; cases hk)).trans (OV.out k (fun e' => by rw [e', hT] at hk; cases hk)))
  · obtain ⟨i0, hi0, hz0, hz1, hz2⟩ := info_parts info_u8
    have hvi : ∃ ao cap0, v i = .slice ao (f i).length cap0 := by
      rcases hFi.1.cases with ⟨h1, h2, _⟩ | ⟨g, cap, cur, hval, _⟩
      · exact ⟨none, 0, by rw [h1, h2]⟩
      · exact ⟨_, _, hval⟩
    obtain ⟨ao, cap0, hvi⟩ := hvi
    obtain ⟨len0, hlen⟩ : ∃ x, x = (f i).length := ⟨_, rfl⟩
    have hb4 := hFi.2
    have hR := hFi.1
    rw [← hlen] at hvi hin hb4 hR
    rw [hvi] at c1
    have HL := Lib.hid hlen; have HV := Lib.hid hvi
    clear hlen hvi
    obtain ⟨m, hm0⟩ : ∃ m : Nat, at' + s.size = len0 + m := ⟨at' + s.size - len0, by omega⟩
    have hmp : 0 < m := by omega
    have HM := Lib.hid hm0
    have hlt : (len0 : Int) < at' + s.size := by omega
    have hmm : (at' : Int) + s.size - len0 = m := by omega
    clear hin hm0
    go_enter Try.func134, Try.ntmps134
    go_wp2
    go_quiet (fail)
    generalize hW : World.drewN (w.alloc (Obj.cells #[Value.int IntKind.i64 ↑i, Value.int IntKind.i64 ↑at', Value.string s] 160)) nq = W
    obtain ⟨p, hp⟩ : ∃ p, p = w.heap.size := ⟨_, rfl⟩
    rw [← hp]
    have pW : W.heap[p]? = some (.cells #[Value.int IntKind.i64 ↑i, Value.int IntKind.i64 ↑at', Value.string s] 160 (0, 0)) := by rw [← hW, hp]; exact alloc_new
    have hst : Step isDisk w T W T := by rw [← hW]; exact hst0.drewN _
    have oW : ∀ k, k < w.heap.size → W.heap[k]? = w.heap[k]? := by rw [← hW]; exact fun k hk => alloc_old hk
    have q1 : W.cell? ⟨p, 1, none⟩ = some (Value.int IntKind.i64 ↑at') := by rw [cell_at pW]; rfl
    have q2 : W.cell? ⟨p, 2, none⟩ = some (Value.string s) := by rw [cell_at pW]; rfl
    have RW : RowT W T (.file i) 5 1 (.slice ao len0 cap0) len0 (cells (f i)) := by rw [← HV.out]; exact hR.other (fun k _ hlt => oW k hlt)
    have PW := Lib.hid pW; have OW := Lib.hid oW; have HW := Lib.hid hW; have HP := Lib.hid hp
    clear pW oW hW hp c1
    go_wp2_with (at_builtin; refine hold_of ?_)
    unfold Hold
    refine wpList_append_zeros_T rfl (.tmp 24) (.tmp 25) 69 3 rfl 5 i0 (.int .u8 0) 1 .i64 .i64 und_bytes und_int hi0 hz0 hz1 hz2 rfl rfl T (.file i) hst.fresh _ len0 (cells (f i)) rfl RW m _ rfl rfl hmp ?h1 ?h2 ?k
    case h1 => unfold maxLen; have := HM.out; omega
    case h2 => have := HM.out; omega
    case k =>
      intro v' w1 T1 h1 hs1
      clear RW q1 q2 hlt hmm
      rcases h1.cases with ⟨_, h2, _⟩ | ⟨g, cap, cur, hval, hT, hg, hc, hm, hcs, ht⟩
      · omega
      rw [hval]
      obtain ⟨len, hlen⟩ : ∃ x, x = len0 + m := ⟨_, rfl⟩
      rw [← hlen] at hval hc ht ⊢
      rw [← cells_replicate, ← cells_append] at ht
      have hm' : cap ≤ maxLen := hm
      unfold maxLen at hm
      have hst2 : Step isDisk w T w1 T1 := hst.trans (hs1.mono (by intro t ht; rw [beq_iff_eq] at ht; rw [ht]; rfl))
      have dW : w1.heap[d]? = some (.cells (diskCells v rv) 95 (0, 0)) := hs1.at ((OW.out d ld).trans hd) (by rw [hTd]; rfl)
      have hTd1 : T1 d = .disk := hs1.tag ((OW.out d ld).trans hd) hTd
      have pW : w1.heap[p]? = some (.cells #[Value.int IntKind.i64 ↑i, Value.int IntKind.i64 ↑at', Value.string s] 160 (0, 0)) := hs1.at PW.out (by rw [hf p (by rw [HP.out]; exact Nat.le_refl _)]; rfl)
      have hTp1 : T1 p = .none := hs1.tag PW.out (hf p (by rw [HP.out]; exact Nat.le_refl _))
      have hpg : p ≠ g := ne_of_tag hTp1 hT (by simp)
      have hdg : d ≠ g := ne_of_tag hTd1 hT (by simp)
      have gW := hg
      have hb5 : len ≤ 4194304 := by have := HM.out; omega
      have hin : at' + s.size ≤ len := by have := HM.out; omega
      have hF2 : ∀ j, j < 2 → j ≠ i → FileT w1 T1 j (v j) (f j) := fun j hj hne => ((hF j hj).other (fun k _ hlt => OW.out k hlt)).kept hs1 (by rw [beq_eq_false_iff_ne]; intro e; cases e; exact hne rfl)
      have hrw2 : RowT w1 T1 .raws 163 1 rv n xs := (hrw.other (fun k _ hlt => OW.out k hlt)).kept hs1 (by rfl)
      have hbs : (f i ++ List.replicate m 0).length = len := by rw [List.length_append, List.length_replicate, ← HL.out, hlen]
      have hwr : wr (f i) at' s.data.toList = lay (f i ++ List.replicate m 0) at' s.data.toList := by
        unfold wr
        rw [show at' + s.data.toList.length - (f i).length = m by rw [hls, ← HL.out]; have := HM.out; omega]
      have HB := Lib.hid hbs; have HWR := Lib.hid hwr; have HF2 := Lib.hid hF2; have HFF := Lib.hid hF; have HLL := Lib.hid hlen; have HV2 := Lib.hid hval
      clear hbs hwr hF2 hF hlen hval hd hst hst0 hs1
      have hst := hst2
      replace hTd := hTd1
      go_wp2
      have hcp := run_copy_str (P := Try.prog) w1.drew 69 9 3 5 g at' (len - at') (cap - at') s cur 5 (0, 0) und_bytes size_u8 gW (.inl rfl) (by omega) (by omega)
      have hne : ¬ cap = at' := by omega
      have hs2 : at' ≤ len := by omega
      have q0 : w1.cell? ⟨p, 0, none⟩ = some (Value.int IntKind.i64 ↑i) := by rw [cell_at pW]; rfl
      have q1 : w1.cell? ⟨p, 1, none⟩ = some (Value.int IntKind.i64 ↑at') := by rw [cell_at pW]; rfl
      have q2 : w1.cell? ⟨p, 2, none⟩ = some (Value.string s) := by rw [cell_at pW]; rfl
      have GW := Lib.hid gW; have DW := Lib.hid dW; have PW := Lib.hid pW
      clear gW dW pW
      go_region
      clear hcp q0 q1 q2 hne
      go_wp2
      generalize hV : World.setRow w1.drew g (lay cur.toList at' (cells s.data.toList)).toArray = V
      have gV : V.heap[g]? = some (.cells (lay cur.toList at' (cells s.data.toList)).toArray 5 (0, 0)) := by rw [← hV]; exact row_same GW.out
      have oV : ∀ k, k ≠ g → V.heap[k]? = w1.heap[k]? := by rw [← hV]; exact fun k hk => row_other (fun e => hk e.symm)
      have sV : Step isDisk w1 T1 V T1 := by rw [← hV]; exact ((Step.refl (C := isDisk) hst.fresh).drew).setRow (by rw [hT]; rfl)
      have q0 : V.cell? ⟨p, 0, none⟩ = some (Value.int IntKind.i64 ↑i) := by rw [cell_at ((oV p hpg).trans PW.out)]; rfl
      have k1 : V.cell? ⟨d, 1 + i, none⟩ = some (v i) := by rw [cell_at ((oV d hdg).trans DW.out)]; exact diskCells_get v rv hi
      have z1 : V.frozen? ⟨d, 1 + i, none⟩ = false := froz_at ((oV d hdg).trans DW.out)
      have GV := Lib.hid gV; have OV := Lib.hid oV
      clear gV oV hV
      go_region
      go_wp2
      go_end0
      have dd := set_same (o := 1 + i) (v := .slice (some ⟨g, 0, none⟩) len cap) ((OV.out d hdg).trans DW.out)
      rw [diskCells_set _ _ _ hi] at dd
      refine ⟨rfl, T1, ⟨hTd, upd v i (.slice (some ⟨g, 0, none⟩) len cap), rv, xs, dd, ?_, ?_⟩, (hst.trans (sV.setCell (by rw [hTd]; rfl))).drew⟩
      · intro j hj
        by_cases e : j = i
        · subst e
          rw [upd_same, upd_same, HWR.out]
          exact put_ends hT GW.out HB.out hc hm' hcs ht (by omega) ((set_other hdg).trans GV.out) (by omega)
        · rw [upd_other _ _ e, upd_other _ _ e]
          exact (HF2.out j hj e).other (fun k hk _ => (set_other (fun e' => by rw [← e', hTd] at hk; cases hk)).trans (OV.out k (fun e' => by rw [e', hT] at hk; cases hk; exact e rfl)))
      · exact hrw2.other (fun k hk _ => (set_other (fun e' => by rw [← e', hTd] at hk; cases hk)).trans (OV.out k (fun e' => by rw [e', hT] at hk; cases hk)))

end Go.Proofs.Ytiolpfneppchnaa
