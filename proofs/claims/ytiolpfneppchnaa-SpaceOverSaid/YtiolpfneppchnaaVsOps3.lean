/- Laws for the walk: slices of bytes that read as known bytes, wherever they lie; cutting, converting, copying, making them. -/
import Derived.Test.YtiolpfneppchnaaVsOps2
import Derived.Maps.OwnSet
import Derived.Maps.RangeWalk
namespace Go.Vs
open Go Go.RowKit

section
variable {P : Program} {ops : Array Oper} {rest : List Oper} {o : Oper} {a : Act} {Q : Exit → Act → World → Prop} {w : World}

/-- an operation whose run is known. -/
theorem wpList_value (hg : o.guard = none) {v : Value} {w' : World} (hr : (execOp a.eval o).run P w = .ok (.value v) w') (h : wpList P ops Q rest (a.put o.dst v) w') : wpList P ops Q (o :: rest) a w :=
  wpList_plain hg fun K hK => by unfold Oper.wp; rw [hr]; exact hK _ _ h

theorem wpList_skip' (hg : o.guard = none) {w' : World} (hr : (execOp a.eval o).run P w = .ok .skip w') (h : wpList P ops Q rest (a.put o.dst undef) w') : wpList P ops Q (o :: rest) a w :=
  wpList_plain hg fun K hK => by unfold Oper.wp; rw [hr]; exact hK _ _ h

theorem wpList_convert (hg : o.guard = none) (s d : TypeId) (x : Operand) (ho : o.op = .convert s d x) {v : Value} (hx : a.eval x = v) {r : Value} {w' : World} (hr : (convert s d v).run P w = .ok r w')
    (h : wpList P ops Q rest (a.put o.dst r) w') : wpList P ops Q (o :: rest) a w :=
  wpList_value hg (by simp [execOp, ho, hx, hr, Result.andThen]) h

theorem wpList_sliceOp (hg : o.guard = none) (t : TypeId) (x : Operand) (lo hi mx : Option Operand) (ho : o.op = .slice t x lo hi mx) {r : Value} (hr : (Instr.sliceAt t (a.eval x) (lo.map a.eval) (hi.map a.eval) (mx.map a.eval)).run P w = .ok r w)
    (h : wpList P ops Q rest (a.put o.dst r) w) : wpList P ops Q (o :: rest) a w :=
  wpList_value hg (by simp [execOp, ho, hr, Result.andThen]) h

theorem hold_slice (t : TypeId) (x : Operand) (lo hi mx : Option Operand) (_ho : o.op = .slice t x lo hi mx) (h : Hold (wpList P ops Q (o :: rest) a w)) : wpList P ops Q (o :: rest) a w := h
theorem hold_convert (s d : TypeId) (x : Operand) (_ho : o.op = .convert s d x) (h : Hold (wpList P ops Q (o :: rest) a w)) : wpList P ops Q (o :: rest) a w := h

/-- what a slice value reads as: bytes, in whatever memory. -/
def SlB (w : World) (v : Value) (bs : Bs) : Prop :=
  ∃ ao cap, v = .slice ao bs.length cap ∧ bs.length ≤ cap ∧ cap ≤ maxLen ∧
    ((ao = none ∧ cap = 0 ∧ bs = []) ∨ ∃ b off, ao = some ⟨b, off, none⟩ ∧ ∀ j x, bs[j]? = some x → w.cell? ⟨b, off + j, none⟩ = some (.int .u8 x.toNat))

theorem SlB.reads {v : Value} {bs : Bs} (h : SlB w v bs) : Reads w v bs := by
  obtain ⟨ao, cap, rfl, _, _, ⟨rfl, rfl, rfl⟩ | ⟨b, off, rfl, hc⟩⟩ := h
  · exact .inl ⟨0, rfl, rfl⟩
  · exact .inr ⟨⟨b, off, none⟩, cap, rfl, rfl, hc⟩

theorem SlB.nil (w : World) : SlB w (.slice none 0 0) [] := ⟨none, 0, rfl, Nat.le_refl _, by simp, .inl ⟨rfl, rfl, rfl⟩⟩

theorem BlkB.slb {E : TypeId} {g cap : Nat} {bs : Bs} (h : BlkB w E g cap bs) : SlB w (.slice (some ⟨g, 0, none⟩) bs.length cap) bs := by
  have h' := h
  obtain ⟨cur, fr, hg, _, hsz, hle, hm, _⟩ := h'
  exact ⟨_, _, rfl, hle, hm, .inr ⟨g, 0, rfl, fun j x hj => by simpa using h.cell hj⟩⟩

theorem SlB.kept {w' : World} {v : Value} {bs : Bs} (h : SlB w v bs) (hk : ∀ b, v.ownBlock = some b → w'.heap[b]? = w.heap[b]?) : SlB w' v bs := by
  obtain ⟨ao, cap, rfl, h1, h2, h3 | ⟨b, off, rfl, hc⟩⟩ := h
  · exact ⟨ao, cap, rfl, h1, h2, .inl h3⟩
  · exact ⟨_, cap, rfl, h1, h2, .inr ⟨b, off, rfl, fun j x hj => by
      have := hc j x hj
      simpa [World.cell?, hk b rfl] using this⟩⟩

theorem SlB.below {w' : World} {v : Value} {bs : Bs} (h : SlB w v bs) (hb : Below w.heap.size w w') : SlB w' v bs := by
  obtain ⟨ao, cap, rfl, h1, h2, h3 | ⟨b, off, rfl, hc⟩⟩ := h
  · exact ⟨ao, cap, rfl, h1, h2, .inl h3⟩
  · exact ⟨_, cap, rfl, h1, h2, .inr ⟨b, off, rfl, fun j x hj => by
      have h0 := hc j x hj
      have hlt := World.block_lt_of_cell? w _ h0
      exact (hb.cell (p := ⟨b, off + j, none⟩) hlt).trans h0⟩⟩

/-- where bytes are, they lie in a block that is there. -/
theorem SlB.lt {v : Value} {bs : Bs} (h : SlB w v bs) (h0 : 0 < bs.length) : ∃ b, v.ownBlock = some b ∧ b < w.heap.size := by
  obtain ⟨ao, cap, rfl, h1, h2, ⟨_, _, rfl⟩ | ⟨b, off, rfl, hc⟩⟩ := h
  · simp at h0
  · exact ⟨b, rfl, World.block_lt_of_cell? w _ (hc 0 _ (List.getElem?_eq_getElem h0))⟩

theorem own_cut (ao : Option Addr) (c : Prop) [Decidable c] (l n m n' m' : Nat) : (Value.slice (if c then ao else ao.map (·.add l)) n m).ownBlock = (Value.slice ao n' m').ownBlock := by
  cases ao with
  | none => by_cases h : c <;> simp [h, Value.ownBlock]
  | some a =>
    by_cases h : c
    · simp [h, Value.ownBlock]
    · simp only [h, if_false, Option.map_some, Value.ownBlock, Addr.add]
      split <;> rfl

/-- the value of a cut. -/
theorem run_cut (t e : TypeId) (ht : P.underlying t = some (.slice e)) (he : (P.info? e).map (·.size) = some 1) (ao : Option Addr) (len cap : Nat) (lo hi mx : Option Value) (l h m : Nat)
    (hb : (Instr.sliceBounds true len cap lo hi mx).run P w = .ok (l, h, m) w) :
    (Instr.sliceAt t (.slice ao len cap) lo hi mx).run P w = .ok (.slice (if m = l then ao else ao.map (·.add l)) (h - l) (m - l)) w := by
  cases hq : P.info? e with
  | none => simp [hq] at he
  | some i =>
    have hi' : i.size = 1 := by simpa [hq] using he
    simp [Instr.sliceAt, Instr.slice, run_underlying ht, hb, sizeOf, typeInfo, hq, hi', Result.andThen]

theorem bounds_lh (len cap : Nat) (kl kh : IntKind) (l h : Int) (h0 : 0 ≤ l) (h1 : l ≤ h) (h2 : h ≤ cap) :
    (Instr.sliceBounds true len cap (some (.int kl l)) (some (.int kh h)) none).run P w = .ok (l.toNat, h.toNat, cap) w := by
  have eh : (h.toNat : Int) = h := Int.toNat_of_nonneg (by omega)
  simp [Instr.sliceBounds, run_sliceBound, *, eh, (by omega : 0 ≤ h)]

theorem bounds_h (len cap : Nat) (kh : IntKind) (h : Int) (h1 : 0 ≤ h) (h2 : h ≤ cap) :
    (Instr.sliceBounds true len cap none (some (.int kh h)) none).run P w = .ok (0, h.toNat, cap) w := by
  simp [Instr.sliceBounds, run_sliceBound, *]

theorem bounds_l (len cap : Nat) (kl : IntKind) (l : Int) (h0 : 0 ≤ l) (h1 : l ≤ len) :
    (Instr.sliceBounds true len cap (some (.int kl l)) none none).run P w = .ok (l.toNat, len, cap) w := by
  simp [Instr.sliceBounds, run_sliceBound, *]

theorem bounds_lhm (len cap : Nat) (kl kh km : IntKind) (l h m : Int) (h0 : 0 ≤ l) (h1 : l ≤ h) (h2 : h ≤ m) (h3 : m ≤ cap) :
    (Instr.sliceBounds true len cap (some (.int kl l)) (some (.int kh h)) (some (.int km m))).run P w = .ok (l.toNat, h.toNat, m.toNat) w := by
  have eh : (h.toNat : Int) = h := Int.toNat_of_nonneg (by omega)
  have em : (m.toNat : Int) = m := Int.toNat_of_nonneg (by omega)
  simp [Instr.sliceBounds, run_sliceBound, *, eh, em, (by omega : 0 ≤ h), (by omega : 0 ≤ m)]

theorem bounds_hm (len cap : Nat) (kh km : IntKind) (h m : Int) (h1 : 0 ≤ h) (h2 : h ≤ m) (h3 : m ≤ cap) :
    (Instr.sliceBounds true len cap none (some (.int kh h)) (some (.int km m))).run P w = .ok (0, h.toNat, m.toNat) w := by
  have eh : (h.toNat : Int) = h := Int.toNat_of_nonneg (by omega)
  have em : (m.toNat : Int) = m := Int.toNat_of_nonneg (by omega)
  simp [Instr.sliceBounds, run_sliceBound, *, eh, em, (by omega : 0 ≤ m)]

/-- the cut reads as the part. -/
theorem SlB.cut {v : Value} {bs : Bs} (hv : SlB w v bs) (t e : TypeId) (ht : P.underlying t = some (.slice e)) (he : (P.info? e).map (·.size) = some 1) (lo hi mx : Option Value) (l h : Nat) (m : Nat → Nat) (hlh : l ≤ h) (hh : h ≤ bs.length) (hm : ∀ cap, bs.length ≤ cap → h ≤ m cap ∧ m cap ≤ cap)
    (hb : ∀ cap, bs.length ≤ cap → (Instr.sliceBounds true bs.length cap lo hi mx).run P w = .ok (l, h, m cap) w) :
    ∃ r, (Instr.sliceAt t v lo hi mx).run P w = .ok r w ∧ SlB w r ((bs.drop l).take (h - l)) ∧ r.ownBlock = v.ownBlock := by
  obtain ⟨ao, cap, rfl, h1, h2, h3⟩ := hv
  refine ⟨_, run_cut t e ht he ao bs.length cap lo hi mx l h (m cap) (hb cap h1), ?_, own_cut _ _ _ _ _ _ _⟩
  have hlen : ((bs.drop l).take (h - l)).length = h - l := by simp; omega
  have hmc := hm cap h1
  rcases h3 with ⟨rfl, rfl, rfl⟩ | ⟨b, off, rfl, hc⟩
  · have : l = 0 := by simp at hh; omega
    have : h = 0 := by simp at hh; omega
    subst this; subst l
    have h0 : m 0 = 0 := by have := hm 0 (by simp); omega
    exact ⟨none, 0, by simp [h0], by simp, by simp, .inl ⟨rfl, rfl, by simp⟩⟩
  · refine ⟨_, m cap - l, by rw [hlen], by rw [hlen]; omega, by omega, ?_⟩
    by_cases e' : m cap = l
    · rw [if_pos e']
      exact .inr ⟨b, off, rfl, fun j x hj => by rw [List.getElem?_eq_none (by rw [hlen]; omega)] at hj; cases hj⟩
    · rw [if_neg e']
      refine .inr ⟨b, off + l, by simp [Addr.add_lit], fun j x hj => ?_⟩
      rw [List.getElem?_take] at hj
      split at hj
      · rw [List.getElem?_drop] at hj
        have := hc (l + j) x hj
        rwa [Nat.add_assoc]
      · cases hj

/-- 'b[lo:hi]' within the length. -/
theorem wpList_cut_lh (hg : o.guard = none) (t : TypeId) (x lo hi : Operand) (ho : o.op = .slice t x (some lo) (some hi) none) (e : TypeId) (ht : P.underlying t = some (.slice e)) (he : (P.info? e).map (·.size) = some 1)
    {v : Value} {bs : Bs} (hx : a.eval x = v) (hv : SlB w v bs) {kl kh : IntKind} {L H : Int} (hl : a.eval lo = .int kl L) (hh : a.eval hi = .int kh H) (h0 : 0 ≤ L) (h1 : L ≤ H) (h2 : H ≤ bs.length)
    (h : ∀ r, SlB w r ((bs.drop L.toNat).take (H.toNat - L.toNat)) → r.ownBlock = v.ownBlock → wpList P ops Q rest (a.put o.dst r) w) : wpList P ops Q (o :: rest) a w := by
  obtain ⟨r, hr, hs, hbk⟩ := hv.cut (P := P) t e ht he (some (.int kl L)) (some (.int kh H)) none L.toNat H.toNat id (by omega) (by omega) (fun cap hc => ⟨by simp only [id]; omega, Nat.le_refl _⟩) (fun cap hc => bounds_lh _ _ _ _ _ _ h0 h1 (by omega))
  exact wpList_sliceOp hg t x (some lo) (some hi) none ho (by simpa [hx, hl, hh] using hr) (h r hs hbk)

/-- 'b[lo:]'. -/
theorem wpList_cut_l (hg : o.guard = none) (t : TypeId) (x lo : Operand) (ho : o.op = .slice t x (some lo) none none) (e : TypeId) (ht : P.underlying t = some (.slice e)) (he : (P.info? e).map (·.size) = some 1)
    {v : Value} {bs : Bs} (hx : a.eval x = v) (hv : SlB w v bs) {kl : IntKind} {L : Int} (hl : a.eval lo = .int kl L) (h0 : 0 ≤ L) (h2 : L ≤ bs.length)
    (h : ∀ r, SlB w r (bs.drop L.toNat) → r.ownBlock = v.ownBlock → wpList P ops Q rest (a.put o.dst r) w) : wpList P ops Q (o :: rest) a w := by
  obtain ⟨r, hr, hs, hbk⟩ := hv.cut (P := P) t e ht he (some (.int kl L)) none none L.toNat bs.length id (by omega) (by omega) (fun cap hc => ⟨hc, Nat.le_refl _⟩) (fun cap hc => bounds_l _ _ _ _ h0 (by omega))
  have e1 : (bs.drop L.toNat).take (bs.length - L.toNat) = bs.drop L.toNat := List.take_of_length_le (by simp)
  rw [e1] at hs
  exact wpList_sliceOp hg t x (some lo) none none ho (by simpa [hx, hl] using hr) (h r hs hbk)

/-- 'b[:hi]' within the length. -/
theorem wpList_cut_h (hg : o.guard = none) (t : TypeId) (x hi : Operand) (ho : o.op = .slice t x none (some hi) none) (e : TypeId) (ht : P.underlying t = some (.slice e)) (he : (P.info? e).map (·.size) = some 1)
    {v : Value} {bs : Bs} (hx : a.eval x = v) (hv : SlB w v bs) {kh : IntKind} {H : Int} (hh : a.eval hi = .int kh H) (h0 : 0 ≤ H) (h2 : H ≤ bs.length)
    (h : ∀ r, SlB w r (bs.take H.toNat) → r.ownBlock = v.ownBlock → wpList P ops Q rest (a.put o.dst r) w) : wpList P ops Q (o :: rest) a w := by
  obtain ⟨r, hr, hs, hbk⟩ := hv.cut (P := P) t e ht he none (some (.int kh H)) none 0 H.toNat id (by omega) (by omega) (fun cap hc => ⟨by simp only [id]; omega, Nat.le_refl _⟩) (fun cap hc => bounds_h _ _ _ _ h0 (by omega))
  exact wpList_sliceOp hg t x none (some hi) none ho (by simpa [hx, hh] using hr) (h r (by simpa using hs) hbk)

/-- 'b[lo:hi:hi]' within the length. -/
theorem wpList_cut_lhh (hg : o.guard = none) (t : TypeId) (x lo hi mx : Operand) (ho : o.op = .slice t x (some lo) (some hi) (some mx)) (e : TypeId) (ht : P.underlying t = some (.slice e)) (he : (P.info? e).map (·.size) = some 1)
    {v : Value} {bs : Bs} (hx : a.eval x = v) (hv : SlB w v bs) {kl kh km : IntKind} {L H M : Int} (hl : a.eval lo = .int kl L) (hh : a.eval hi = .int kh H) (hm : a.eval mx = .int km M) (hHM : H = M) (h0 : 0 ≤ L) (h1 : L ≤ H) (h2 : H ≤ bs.length)
    (h : ∀ r, SlB w r ((bs.drop L.toNat).take (H.toNat - L.toNat)) → r.ownBlock = v.ownBlock → wpList P ops Q rest (a.put o.dst r) w) : wpList P ops Q (o :: rest) a w := by
  obtain ⟨r, hr, hs, hbk⟩ := hv.cut (P := P) t e ht he (some (.int kl L)) (some (.int kh H)) (some (.int km M)) L.toNat H.toNat (fun _ => M.toNat) (by omega) (by omega) (fun cap hc => ⟨by omega, by omega⟩) (fun cap hc => bounds_lhm _ _ _ _ _ _ _ _ h0 h1 (by omega) (by omega))
  exact wpList_sliceOp hg t x (some lo) (some hi) (some mx) ho (by simpa [hx, hl, hh, hm] using hr) (h r hs hbk)

/-- 'b[:hi:hi]' within the length. -/
theorem wpList_cut_hh (hg : o.guard = none) (t : TypeId) (x hi mx : Operand) (ho : o.op = .slice t x none (some hi) (some mx)) (e : TypeId) (ht : P.underlying t = some (.slice e)) (he : (P.info? e).map (·.size) = some 1)
    {v : Value} {bs : Bs} (hx : a.eval x = v) (hv : SlB w v bs) {kh km : IntKind} {H M : Int} (hh : a.eval hi = .int kh H) (hm : a.eval mx = .int km M) (hHM : H = M) (h0 : 0 ≤ H) (h2 : H ≤ bs.length)
    (h : ∀ r, SlB w r (bs.take H.toNat) → r.ownBlock = v.ownBlock → wpList P ops Q rest (a.put o.dst r) w) : wpList P ops Q (o :: rest) a w := by
  obtain ⟨r, hr, hs, hbk⟩ := hv.cut (P := P) t e ht he none (some (.int kh H)) (some (.int km M)) 0 H.toNat (fun _ => M.toNat) (by omega) (by omega) (fun cap hc => ⟨by omega, by omega⟩) (fun cap hc => bounds_hm _ _ _ _ _ _ h0 (by omega) (by omega))
  exact wpList_sliceOp hg t x none (some hi) (some mx) ho (by simpa [hx, hh, hm] using hr) (h r (by simpa using hs) hbk)

/-- 'string(b)'. -/
theorem wpList_string (hg : o.guard = none) (s d : TypeId) (x : Operand) (ho : o.op = .convert s d x) (e : TypeId) (hs : P.underlying s = some (.slice e)) (he : P.underlying e = some (.int .u8)) (hd : P.underlying d = some .string)
    {v : Value} {bs : Bs} (hx : a.eval x = v) (hv : SlB w v bs) (h : wpList P ops Q rest (a.put o.dst (str bs)) w) : wpList P ops Q (o :: rest) a w :=
  wpList_convert hg s d x ho hx (run_string_of w s d e v bs hs he hd hv.reads) h

/-- '[]byte(s)'. -/
theorem wpList_bytes (hg : o.guard = none) (s d : TypeId) (x : Operand) (ho : o.op = .convert s d x) (e : TypeId) (hs : P.underlying s = some .string) (hd : P.underlying d = some (.slice e)) (he : P.underlying e = some (.int .u8))
    {str : ByteArray} (hx : a.eval x = .string str) (hsz : str.size ≤ maxLen)
    (h : ∀ cap w', BlkB w' e w.heap.size cap str.data.toList → w.grownBy w' none → w'.heap.size = w.heap.size + 1 → wpList P ops Q rest (a.put o.dst (.slice (some ⟨w.heap.size, 0, none⟩) str.size cap)) w') : wpList P ops Q (o :: rest) a w := by
  obtain ⟨cap, w', hr, h1, h2, h3⟩ := run_bytes_of (P := P) w s d e str hs hd he hsz
  exact wpList_convert hg s d x ho hx hr (h cap w' h1 h2 h3)

end
end Go.Vs
