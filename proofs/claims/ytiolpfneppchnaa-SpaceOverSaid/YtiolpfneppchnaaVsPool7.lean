/- The pool (layer 4): Pin. -/
import Derived.Test.YtiolpfneppchnaaVsPool6
namespace Go.Proofs.Ytiolpfneppchnaa
open Go Go.RowKit Go.Vs

/-- a pool at rest: no page is pinned. -/
def PoolR (w : World) (T : Tags) (p d : Nat) (base : Nat → Bs) (f : Nat → Bs) (N : Nat) : Prop :=
  ∃ n most hand fr at' nr, PoolM w T p d most n hand fr at' ∧ DiskR w T d f nr ∧ PoolL n most hand fr at' base (f 1) N nr none none

/-- a pool of which one page is pinned once. -/
def PoolP (w : World) (T : Tags) (p d : Nat) (base : Nat → Bs) (f : Nat → Bs) (N : Nat) (page : Nat) : Prop :=
  ∃ n most hand fr at' nr i, PoolM w T p d most n hand fr at' ∧ DiskR w T d f nr ∧ PoolL n most hand fr at' base (f 1) N nr none (some i) ∧ at' page = some i

/-- what a map of frames gives. -/
theorem PoolM.look {w : World} {T : Tags} {p d most n hand : Nat} {fr : Nat → Fr} {at' : Int → Option Nat} (h : PoolM w T p d most n hand fr at') (k : Int) :
    ∃ m, w.cell? ⟨p, 4, none⟩ = some (.map (some m)) ∧ (Instr.lookup 125 (.map (some m)) (.int .i64 k) false).run Try.prog w = .ok (match at' k with | some i => ptr (fr i).blk | none => .pointer none) w := by
  obtain ⟨m, lv, h1, h2, h3, h4, h5, h6⟩ := h
  obtain ⟨i0, hi0, hz0, hz1, hz2⟩ := info_parts info_pframe
  refine ⟨m, by rw [cell_at h3]; rfl, ?_⟩
  have hl := run_lookup (P := Try.prog) (w := w) 125 3 132 und_pmap und_int hi0 hz0 h5 k false
  rw [hl]
  cases at' k <;> rfl

/-- a map's entry is laid. -/
theorem PoolM.put {w : World} {T : Tags} {p d most n hand : Nat} {fr : Nat → Fr} {at' : Int → Option Nat} (hf : Fresh w T) (h : PoolM w T p d most n hand fr at') (k : Int) (i : Nat) :
    ∃ m o, w.cell? ⟨p, 4, none⟩ = some (.map (some m)) ∧ (Instr.mapUpdate 125 (.map (some m)) (.int .i64 k) (ptr (fr i).blk)).run Try.prog w = .ok () (putObj w m o) ∧
      PoolM (putObj w m o) T p d most n hand fr (mupd at' k (some i)) ∧ Step isPoolM w T (putObj w m o) T := by
  obtain ⟨m, lv, h1, h2, h3, h4, h5, h6⟩ := h
  obtain ⟨o, hr, hm⟩ := run_update (P := Try.prog) 125 3 132 und_pmap und_int h5 k (ptr (fr i).blk)
  have hs : Step (fun t => t == .pmap) w T (putObj w m o) T := (Step.refl hf).putObj (by rw [h2]; rfl)
  refine ⟨m, o, by rw [cell_at h3]; rfl, hr, ⟨m, lv, h1, h2, (put_other (ne_of_tag h2 h1 (by simp))).trans h3, h4.kept hs rfl, ?_, fun i hi => (h6 i hi).kept hs rfl rfl⟩, hs.mono (by intro t ht; rw [beq_iff_eq] at ht; rw [ht]; rfl)⟩
  have e : (fun j => (mupd at' k (some i) j).map fun i => ptr (fr i).blk) = mupd (fun j => (at' j).map fun i => ptr (fr i).blk) k (some (ptr (fr i).blk)) := by
    funext j
    by_cases e : j = k
    · subst e; simp [mupd_same]
    · simp [mupd_other _ _ e]
  rw [e]; exact hm

/-- a frame's own words turn: not its page nor its bytes. -/
theorem PoolL.pin {n most hand : Nat} {fr : Nat → Fr} {at' : Int → Option Nat} {base : Nat → Bs} {f1 : Bs} {N nr : Nat} {pin pin' : Option Nat} (L : PoolL n most hand fr at' base f1 N nr none pin) (i : Nat) (x : Fr)
    (h1 : x.page = (fr i).page) (h2 : x.bytes = (fr i).bytes) (h3 : x.changed = (fr i).changed) (hp : ∀ j, j < n → (upd fr i x j).pins = if some j = pin' then 1 else 0) : PoolL n most hand (upd fr i x) at' base f1 N nr none pin' := by
  have e : ∀ j, (upd fr i x j).page = (fr j).page ∧ (upd fr i x j).bytes = (fr j).bytes ∧ (upd fr i x j).changed = (fr j).changed := by
    intro j
    by_cases e : j = i
    · subst e; rw [upd_same]; exact ⟨h1, h2, h3⟩
    · rw [upd_other _ _ e]; exact ⟨rfl, rfl, rfl⟩
  refine { hn := L.hn, hm0 := L.hm0, hm1 := L.hm1, hand := L.hand, at_iff := ?_, page := ?_, len := ?_, bas := ?_, clean := ?_, free := ?_, out := L.out, pins := hp, flen := L.flen, cnt := ?_ }
  · intro k j; rw [(e j).1]; exact L.at_iff k j
  · intro j hj hl; rw [(e j).1]; exact L.page j hj hl
  · intro j hj hl; rw [(e j).2.1]; exact L.len j hj hl
  · intro j hj hl; rw [(e j).1, (e j).2.1]; exact L.bas j hj hl
  · intro j hj hl hc; rw [(e j).2.2] at hc; rw [(e j).1, (e j).2.1]; exact L.clean j hj hl hc
  · intro j hj; cases hj
  · rw [chg_congr (fr := fr) n (fun j _ => (e j).2.2)]; exact L.cnt

set_option maxRecDepth 100000 in
set_option maxHeartbeats 800000 in
theorem pool_pin_hit (p d most n hand i page : Nat) (fr : Nat → Fr) (at' : Int → Option Nat) (base : Nat → Bs) (w : World) (T : Tags) (f : Nat → Bs) (N nr : Nat) (hf : Fresh w T) (h : PoolM w T p d most n hand fr at') (hd : DiskR w T d f nr) (L : PoolL n most hand fr at' base (f 1) N nr none none)
    (ha : at' page = some i) (hp : page < 4096) :
    Calls Try.prog 76 #[ptr p, .int .i64 page] w fun e w' => e = .returned (.int .i64 0) ∧ PoolP w' T p d base f N page ∧ Step isPool w T w' T := by
  obtain ⟨hi, _, _⟩ := (L.at_iff _ _).1 ha
  obtain ⟨m, c4, hl⟩ := h.look page
  rw [ha] at hl
  have c1 := h.c1
  have hF := h.frame hi
  have hpin : (fr i).pins = 0 := by rw [L.pins i hi]; rfl
  have k2 : w.cell? ⟨(fr i).blk, 2, none⟩ = some (.int .i64 0) := by rw [hF.cell 2]; simp [frCells, hpin]
  have k4 : w.cell? ⟨(fr i).blk, 4, none⟩ = some (.bool (fr i).lately) := hF.cell 4
  have z2 : w.frozen? ⟨(fr i).blk, 2, none⟩ = false := hF.froz 2
  have z4 : w.frozen? ⟨(fr i).blk, 4, none⟩ = false := hF.froz 4
  have hm0 : 0 < most := L.hm0
  have hp0 : ¬ (page : Int) < 0 := by omega
  have hp1 : ¬ (4096 : Int) ≤ page := by omega
  have HM := Lib.hid h; have HL := Lib.hid L; have HA := Lib.hid ha; have HD := Lib.hid hd; have HPI := Lib.hid hpin
  clear h L ha hd hF hpin
  obtain ⟨b, hb⟩ : ∃ b, b = (fr i).blk := ⟨_, rfl⟩
  replace hl : (Instr.lookup 125 (.map (some m)) (.int .i64 page) false).run Try.prog w = .ok (ptr b) w := by rw [hb]; exact hl
  rw [← hb] at k2 k4 z2 z4
  have HB := Lib.hid hb
  clear hb
  go_enter Try.func76, Try.ntmps76
  go_wp2_with (go_at_call 85; refine (pool_given p w most c1 hm0).mono ?_; rintro e w' ⟨rfl, rfl⟩)

  go_ret
  have hF := HM.out.frame hi
  have M1 := HM.out.setFr hf hi 2 (.int .i64 1) { fr i with pins := 1 } rfl rfl rfl rfl
  have s1 : Step isPool w T (w.setCell ⟨(fr i).blk, 2, none⟩ (.int .i64 1)) T := (Step.refl hf).setCell (by rw [hF.1]; rfl)
  have M2 := M1.setFr s1.fresh hi 4 (.bool true) { upd fr i { fr i with pins := 1 } i with lately := true } (by rw [upd_same]; rfl) rfl rfl rfl
  rw [upd_same] at M2
  have s2 := s1.setCell (b := (fr i).blk) (o := 4) (v := .bool true) (by rw [hF.1]; rfl)
  have s2' : Step (fun t => t == .frame i) w T ((w.setCell ⟨(fr i).blk, 2, none⟩ (.int .i64 1)).setCell ⟨(fr i).blk, 4, none⟩ (.bool true)) T := ((Step.refl hf).setCell (by rw [hF.1]; simp)).setCell (by rw [hF.1]; simp)
  rw [HB.out]
  refine ⟨rfl, ⟨n, most, hand, _, at', nr, i, M2, HD.out.kept s2' (fun t ht => by cases t <;> first | rfl | cases ht), ?_, HA.out⟩, s2⟩
  rw [upd_upd]
  refine HL.out.pin i _ rfl rfl rfl (fun j hj => ?_)
  by_cases e : j = i
  · subst e; rw [upd_same]; simp
  · rw [upd_other _ _ e, HL.out.pins j hj]; simp [e]

end Go.Proofs.Ytiolpfneppchnaa
