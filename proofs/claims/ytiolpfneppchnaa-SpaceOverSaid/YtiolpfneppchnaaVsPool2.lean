/- The pool (layer 4): victim, write. -/
import Derived.Test.YtiolpfneppchnaaVsPool
namespace Go.Proofs.Ytiolpfneppchnaa
open Go Go.RowKit Go.Vs

def LateOnly (fr fr' : Nat → Fr) : Prop := ∀ j, ∃ b, fr' j = { fr j with lately := b }

theorem LateOnly.refl (fr : Nat → Fr) : LateOnly fr fr := fun j => ⟨(fr j).lately, rfl⟩
theorem LateOnly.upd {fr fr' : Nat → Fr} (h : LateOnly fr fr') (i : Nat) (b : Bool) : LateOnly fr (upd fr' i { fr' i with lately := b }) := by
  intro j
  by_cases e : j = i
  · subst e
    obtain ⟨c, hc⟩ := h j
    exact ⟨b, by rw [upd_same, hc]⟩
  · rw [upd_other _ _ e]; exact h j

/-- how many frames were asked for lately. -/
def late (fr : Nat → Fr) : Nat → Nat
  | 0 => 0
  | n + 1 => late fr n + (if (fr n).lately then 1 else 0)

theorem late_le (fr : Nat → Fr) : ∀ n, late fr n ≤ n
  | 0 => Nat.le_refl _
  | n + 1 => by have := late_le fr n; unfold late; split <;> omega

theorem late_upd_ge (fr : Nat → Fr) (i : Nat) (f : Fr) : ∀ n, n ≤ i → late (upd fr i f) n = late fr n
  | 0, _ => rfl
  | n + 1, h => by
    unfold late
    rw [late_upd_ge fr i f n (by omega), upd_other _ _ (by omega : n ≠ i)]

theorem late_upd (fr : Nat → Fr) (i : Nat) (f : Fr) (hi : (fr i).lately = true) (hf : f.lately = false) : ∀ n, i < n → late (upd fr i f) n + 1 = late fr n
  | 0, h => by omega
  | n + 1, h => by
    unfold late
    by_cases e : n = i
    · subst e
      rw [late_upd_ge fr n f n (Nat.le_refl _), upd_same, hi, hf]
      simp
    · have := late_upd fr i f hi hf n (by omega)
      rw [upd_other _ _ e]
      omega

theorem plist_get (fr : Nat → Fr) (n i : Nat) (h : i < n) : (plist fr n)[i]? = some (ptr (fr i).blk) := by
  simp [plist, h]

/-- the pool's list as the walk reads it. -/
theorem PoolM.list {w : World} {T : Tags} {p d most n hand : Nat} {fr : Nat → Fr} {at' : Int → Option Nat} (h : PoolM w T p d most n hand fr at') (hn : 0 < n) :
    ∃ g cap, w.cell? ⟨p, 2, none⟩ = some (.slice (some ⟨g, 0, none⟩) n cap) ∧ n ≤ cap ∧ cap ≤ maxLen ∧ ∀ i, i < n → w.cell? ⟨g, i, none⟩ = some (ptr (fr i).blk) := by
  obtain ⟨m, lv, h1, h2, h3, h4, h5, h6⟩ := h
  rcases h4.cases with ⟨_, rfl, _⟩ | ⟨g, cap, cur, rfl, _, hg, hc, hm, hcs, ht⟩
  · omega
  · refine ⟨g, cap, by rw [cell_at h3]; rfl, hc, hm, fun i hi => ?_⟩
    have h := plist_get fr n i hi
    rw [← ht, List.getElem?_take, if_pos (by omega)] at h
    rw [cell_at hg]
    simpa using h

theorem PoolM.c0 {w : World} {T : Tags} {p d most n hand : Nat} {fr : Nat → Fr} {at' : Int → Option Nat} (h : PoolM w T p d most n hand fr at') : w.cell? ⟨p, 0, none⟩ = some (ptr d) := by
  obtain ⟨m, lv, h1, h2, h3, _⟩ := h; rw [cell_at h3]; rfl
theorem PoolM.c1 {w : World} {T : Tags} {p d most n hand : Nat} {fr : Nat → Fr} {at' : Int → Option Nat} (h : PoolM w T p d most n hand fr at') : w.cell? ⟨p, 1, none⟩ = some (.int .i64 most) := by
  obtain ⟨m, lv, h1, h2, h3, _⟩ := h; rw [cell_at h3]; rfl
theorem PoolM.c3 {w : World} {T : Tags} {p d most n hand : Nat} {fr : Nat → Fr} {at' : Int → Option Nat} (h : PoolM w T p d most n hand fr at') : w.cell? ⟨p, 3, none⟩ = some (.int .i64 hand) := by
  obtain ⟨m, lv, h1, h2, h3, _⟩ := h; rw [cell_at h3]; rfl
theorem PoolM.z {w : World} {T : Tags} {p d most n hand : Nat} {fr : Nat → Fr} {at' : Int → Option Nat} (h : PoolM w T p d most n hand fr at') (o : Nat) : w.frozen? ⟨p, o, none⟩ = false := by
  obtain ⟨m, lv, h1, h2, h3, _⟩ := h; exact froz_at h3
theorem PoolM.tag {w : World} {T : Tags} {p d most n hand : Nat} {fr : Nat → Fr} {at' : Int → Option Nat} (h : PoolM w T p d most n hand fr at') : T p = .pool := by
  obtain ⟨m, lv, h1, _⟩ := h; exact h1
theorem PoolM.frame {w : World} {T : Tags} {p d most n hand : Nat} {fr : Nat → Fr} {at' : Int → Option Nat} (h : PoolM w T p d most n hand fr at') {i : Nat} (hi : i < n) : FrameW w T i (fr i) := by
  obtain ⟨m, lv, h1, h2, h3, h4, h5, h6⟩ := h; exact h6 i hi

/-- the hand moves. -/
theorem PoolM.setHand {w : World} {T : Tags} {p d most n hand : Nat} {fr : Nat → Fr} {at' : Int → Option Nat} (hf : Fresh w T) (h : PoolM w T p d most n hand fr at') (hand' : Nat) :
    PoolM (w.setCell ⟨p, 3, none⟩ (.int .i64 hand')) T p d most n hand' fr at' := by
  obtain ⟨m, lv, h1, h2, h3, h4, h5, h6⟩ := h
  have hs : Step (fun t => t == .pool) w T (w.setCell ⟨p, 3, none⟩ (.int .i64 hand')) T := (Step.refl hf).setCell (by rw [h1]; rfl)
  exact ⟨m, lv, h1, h2, set_same h3, h4.kept hs rfl, h5.keptStep h2 hs rfl, fun i hi => (h6 i hi).kept hs rfl rfl⟩

/-- a frame's cell is written. -/
theorem PoolM.setFr {w : World} {T : Tags} {p d most n hand : Nat} {fr : Nat → Fr} {at' : Int → Option Nat} (hf : Fresh w T) (h : PoolM w T p d most n hand fr at') {i : Nat} (hi : i < n) (o : Nat) (v : Value) (f : Fr)
    (hc : (frCells (fr i)).setIfInBounds o v = frCells f) (hb : f.blk = (fr i).blk) (hv : f.bv = (fr i).bv) (hbs : f.bytes = (fr i).bytes) :
    PoolM (w.setCell ⟨(fr i).blk, o, none⟩ v) T p d most n hand (upd fr i f) at' := by
  have hF := h.frame hi
  have hs : Step (fun t => t == .frame i) w T (w.setCell ⟨(fr i).blk, o, none⟩ v) T := (Step.refl hf).setCell (by rw [hF.1]; simp)
  refine h.setFrame i f hb (hs.mono (fun t ht => by simp at ht; simp [ht])) ⟨by rw [hb]; exact hF.1, ?_, ?_⟩
  · rw [hb, set_same hF.2.1, hc]
  · rw [hv, hbs]; exact hF.2.2.kept hs rfl

set_option maxRecDepth 100000 in
set_option maxHeartbeats 800000 in
theorem pool_victim (p d most n hand : Nat) (fr : Nat → Fr) (at' : Int → Option Nat) (w : World) (T : Tags) (hf : Fresh w T) (h : PoolM w T p d most n hand fr at') (hn : 0 < n) (hn2 : n ≤ 1024) (hh : hand < n) (hp : ∀ i, i < n → (fr i).pins = 0) :
    Calls Try.prog 108 #[ptr p] w fun e w' => ∃ i hand' fr', e = .returned (ptr (fr' i).blk) ∧ i < n ∧ hand' < n ∧ PoolM w' T p d most n hand' fr' at' ∧ LateOnly fr fr' ∧ Step isPoolM w T w' T := by
  obtain ⟨g0, cap0, c2, _, _, _⟩ := h.list hn
  have HP := Lib.hid hp; have HM := Lib.hid h
  clear hp h
  go_enter Try.func108, Try.ntmps108
  go_wp2
  go_loopw [3, 10] (fun _ u10 wr => ∃ (k hand' : Nat) (fr' : Nat → Fr), u10 = .int .i64 k ∧ Hid (k + late fr' n ≤ n) ∧ Hid (PoolM wr T p d most n hand' fr' at') ∧ Hid (LateOnly fr fr') ∧ Hid (Step isPoolM w T wr T) ∧ hand' < n) (fun _ u10 _ => 2 * n - (intOf u10).toNat)
  case atStart => exact ⟨0, hand, fr, rfl, Lib.hid (by have := late_le fr n; omega), HM, Lib.hid (LateOnly.refl _), Lib.hid (Step.refl hf), hh⟩
  case round =>
    obtain ⟨k, hand', fr', rfl, HK, HM', HL, HS, hh'⟩ := hrel
    have hk : k ≤ n := by have := HK.out; omega
    have hk2 : (k : Int) < 2 * n := by omega
    obtain ⟨g, cap, c2, hc1, hc2, hci⟩ := HM'.out.list hn
    have ch := hci hand' hh'
    have c3 := HM'.out.c3
    have z3 := HM'.out.z 3
    have hm1 : (0 : Int) ≤ hand' := by omega
    have hm2 : (hand' : Int) < n := by omega
    clear hci
    go_wp2
    go_quiet (fail)
    generalize hV : wr.drewN nq = V
    have KM : Hid (PoolM V T p d most n hand' fr' at') := by rw [← hV]; exact HM'
    have KS : Hid (Step isPoolM w T V T) := by rw [← hV]; exact HS.out.drewN _
    have c2 : V.cell? ⟨p, 2, none⟩ = some (.slice (some ⟨g, 0, none⟩) n cap) := by rw [← hV]; exact c2
    have c3 := KM.out.c3
    have z3 := KM.out.z 3
    have hn0 : ¬ n = 0 := by omega
    clear hV HM' HS
    go_wp2
    go_still_tail 14, (by kernel_rfl)
    change wpList _ _ _ _ _ (World.drew _)
    generalize hW : V.drew = W
    have JM : Hid (PoolM W T p d most n hand' fr' at') := by rw [← hW]; exact KM
    have JS : Hid (Step isPoolM w T W T) := by rw [← hW]; exact KS.out.drew
    have z3 := JM.out.z 3
    have c3' := JM.out.c3
    have hF := JM.out.frame hh'
    have hpin : (fr' hand').pins = 0 := by
      obtain ⟨c, hc⟩ := HL.out hand'
      rw [hc]; exact HP.out hand' hh'
    have k2 : W.cell? ⟨(fr' hand').blk, 2, none⟩ = some (.int .i64 0) := by rw [hF.cell 2]; simp [frCells, hpin]
    have k4 : W.cell? ⟨(fr' hand').blk, 4, none⟩ = some (.bool (fr' hand').lately) := hF.cell 4
    have z4 : W.frozen? ⟨(fr' hand').blk, 4, none⟩ = false := hF.froz 4
    have hbp : (fr' hand').blk ≠ p := ne_of_tag hF.1 JM.out.tag (by simp)
    have hpb : p ≠ (fr' hand').blk := hbp.symm
    clear hW KM KS c2 c3 hF hpin
    obtain ⟨b, hb⟩ : ∃ b, b = (fr' hand').blk := ⟨_, rfl⟩
    obtain ⟨lt, hlt⟩ : ∃ lt, lt = (fr' hand').lately := ⟨_, rfl⟩
    rw [← hb] at k2 k4 z4 hbp hpb ⊢
    rw [← hlt] at k4
    have HB := Lib.hid hb; have HLT := Lib.hid hlt
    clear hb hlt
    cases lt with
    | false =>
      go_wp2
      go_ret
      have e0 : ((hand' : Int) + 1) % n = (((hand' + 1) % n : Nat) : Int) := by push_cast; rfl
      rw [e0]
      refine ⟨hand', (hand' + 1) % n, fr', by rw [HB.out]; rfl, hh', Nat.mod_lt _ hn, JM.out.setHand JS.out.fresh _, HL.out, JS.out.setCell (by rw [JM.out.tag]; rfl)⟩
    | true =>
      have z4' : ∀ v, (W.setCell ⟨p, 3, none⟩ v).frozen? ⟨b, 4, none⟩ = false := by
        intro v
        rw [HB.out]
        exact froz_at ((set_other (by rw [← HB.out]; exact hpb)).trans (JM.out.frame hh').2.1)
      have hki : (k : Int) + 1 < 4000 := by omega
      go_wp2
      go_round
      case rel =>
        have e0 : ((hand' : Int) + 1) % n = (((hand' + 1) % n : Nat) : Int) := by push_cast; rfl
        have M1 := JM.out.setHand JS.out.fresh ((hand' + 1) % n)
        have S1 : Step isPoolM w T (W.setCell ⟨p, 3, none⟩ (.int .i64 ((hand' + 1) % n : Nat))) T := JS.out.setCell (by rw [JM.out.tag]; rfl)
        have M2 := M1.setFr S1.fresh hh' 4 (.bool false) { fr' hand' with lately := false } rfl rfl rfl rfl
        have S2 := S1.setCell (b := (fr' hand').blk) (o := 4) (v := .bool false) (by rw [(JM.out.frame hh').1]; rfl)
        rw [e0, HB.out]
        refine ⟨k + 1, (hand' + 1) % n, _, by go_num, Lib.hid ?_, Lib.hid M2, Lib.hid (HL.out.upd hand' false), Lib.hid S2, Nat.mod_lt _ hn⟩
        have h1 := late_upd fr' hand' { fr' hand' with lately := false } HLT.out.symm rfl n hh'
        have := HK.out
        omega
      case measure => simp [intOf]; omega
end Go.Proofs.Ytiolpfneppchnaa
