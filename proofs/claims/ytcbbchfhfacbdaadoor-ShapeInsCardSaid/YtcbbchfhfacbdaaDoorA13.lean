/- A machine that carries out the translated code on data, and why it is right, part 13 -/
import Derived.Lib.RowBridge
import Derived.Lib.Slices
import Derived.Sort.Grow
import Derived.Sort.Row
import Derived.Test.YtcbbchfhfacbdaaDoorA12
set_option linter.all false
section
/- Rows of whole numbers that the library sorts, and compacts. -/
namespace Go.Ab
open Go Go.Sort
section
variable {F : Nat → Prop} {n0 : Nat} {w : World} {M : Mem} {G : Gh} {ob : OT}

def eN (n : Int) : List Tr := [.lit (.int .i64 n)]
theorem put_heap {w : World} {b st : Nat} {d : Array Int} {arr : Array Value} {T : TypeId} {fr : Nat × Nat} (hw : w.heap[b]? = some (.cells arr T fr)) : (putRow (Value.int .i64) w b st d).heap[b]? = some (.cells (putCells (Value.int .i64) st d arr) T fr) := by
  have hlt : b < w.heap.size := (Array.getElem?_eq_some_iff.1 hw).1
  simp only [putRow, mapBlock]
  rw [Array.getElem?_modify, if_pos rfl, hw]
  rfl
theorem put_other {w : World} {b b' st : Nat} {d : Array Int} (h : b' ≠ b) : (putRow (Value.int .i64) w b st d).heap[b']? = w.heap[b']? := by
  simp only [putRow, mapBlock]
  rw [Array.getElem?_modify, if_neg (Ne.symm h)]
theorem row_put (I : Inv F n0 w M G ob) {o ver : Nat} {l : List Int} (hx : getO ob o = some (.row 1 ver (l.map eN))) (hl : l ≠ []) :
    ∃ (b st : Nat) (ri : RI) (f : Nat → Option RI), G o = some (.row f) ∧ f ver = some ri ∧ ri.blk = some (b, st) ∧ ri.k = 1 ∧ Holds (Value.int .i64) w b st l.toArray ∧ b < w.heap.size ∧ l.length ≤ ri.cap ∧ (F b ∨ n0 ≤ b) ∧
    ∀ (w' : World) (l2 : List Int) (d : Array Int), d.size = l.length → l2.length ≤ d.size → (∀ (i : Nat) (x : Int), l2[i]? = some x → d[i]! = x) → w'.heap[b]? = (putRow (Value.int .i64) w b st d).heap[b]? →
      (∀ b', b' ≠ b → b' < w.heap.size → w'.heap[b']? = w.heap[b']?) → Inv F n0 w' M G (ob.set o (some (.row 1 ver (l2.map eN)))) := by
  have hpos : 0 < l.length := by cases l with | nil => exact absurd rfl hl | cons a r => simp
  have hx0 := hx
  generalize hes : l.map eN = es at hx
  have hobj := I.obj o _ hx
  cases hobj with
  | nil _ _ f ri hg hv hmax hk hb hcap => simp at hes; exact absurd hes hl
  | row _ _ _ f ri b st arr T hg hv hmax hk hb hw hcap hlen he h =>
    subst hes
    have hlt : b < w.heap.size := (Array.getElem?_eq_some_iff.1 hw).1
    have hlen' : l.length ≤ ri.cap := by simpa using hlen
    have hblk : ∀ l' : List Int, blkO G o (.row 1 ver (l'.map eN)) = some b := fun l' => by simp [blkO, hg, hv, hb]
    have hcell : ∀ j (hj : j < l.length), arr.getD (st + j) undef = .int .i64 l[j] := fun j hj => by
      have h1 := h j (eN l[j]) 0 (.lit (.int .i64 l[j])) (by simp [hj]) rfl
      rw [Nat.mul_one, Nat.add_zero] at h1
      generalize arr.getD (st + j) undef = z at h1
      cases h1; rfl
    have hcap' : st + ri.cap ≤ arr.size := by rw [Nat.mul_one] at hcap; exact hcap
    refine ⟨b, st, ri, f, hg, hv, hb, hk, fun j hj => ?_, hlt, hlen', I.own o _ b hx (hblk l), fun w' l2 d hd h2 hdl hwb hwo => ?_⟩
    · have hj' : j < l.length := by simpa using hj
      have h1 := hcell j hj'
      have hja : st + j < arr.size := by omega
      refine ⟨?_, ?_⟩
      · have h3 : arr[st + j]? = some (.int .i64 l[j]) := by rw [Array.getElem?_eq_getElem hja]; simpa [Array.getD, hja] using h1
        have : l.toArray[j]! = l[j] := by simp [hj']
        rw [this]
        simp [World.cell?, hw, h3]
      · simp [World.frozen?, hw]
    · rw [put_heap hw] at hwb
      have hne : ∀ o' x b', o' ≠ o → getO ob o' = some x → blkO G o' x = some b' → b' ≠ b := fun o' x b' hne h1 h2 hbb' => by subst hbb'; exact hne (I.dis o' o x _ b' h1 hx h2 (hblk l))
      have hMb := I.off o _ b hx (hblk l)
      refine I.upd (Mle.refl M) (Gle.refl G) (fun _ _ => rfl) (fun o' x b' hn' h1 h3 => hwo b' (hne o' x b' hn' h1 h3) (I.lt h1 h3)) (fun b' y hy => ?_) (fun o' x b' _ h1 h3 => I.off o' x b' h1 h3)
        (.row 1 ver (l2.map eN) f ri b st _ T hg hv hmax hk hb hwb (by simp [putCells]; omega) (by simp; omega) (fun e he' => ?_) ?_) (fun b' hb' => ?_) (getO_lt hx)
      · have : b' ≠ b := fun e => by subst e; rw [hMb] at hy; cases hy
        rw [hwo b' this (I.memlt hy)]; exact I.mem b' y hy
      · obtain ⟨x, _, rfl⟩ := List.mem_map.1 he'; rfl
      · intro i e j t hi hj
        simp only [List.getElem?_map, Option.map_eq_some_iff] at hi
        obtain ⟨x, hxi, rfl⟩ := hi
        have hil : i < l2.length := (List.getElem?_eq_some_iff.1 hxi).1
        match j, hj with
        | 0, hj =>
          simp only [eN, List.getElem?_cons_zero, Option.some.injEq] at hj
          subst hj
          have hdx := hdl i x hxi
          have : (putCells (Value.int .i64) st d arr).getD (st + i * 1 + 0) undef = .int .i64 x := by
            have hsz : st + i < arr.size := by omega
            simp only [putCells, Nat.mul_one, Nat.add_zero, Array.getD_eq_getD_getElem?, Array.getElem?_mapIdx, Array.getElem?_eq_getElem hsz, Option.map_some, Option.getD_some]
            rw [if_pos ⟨by omega, by omega⟩, show st + i - st = i by omega, hdx]
          rw [this]; exact .lit _ rfl
        | j + 1, hj => simp [eN] at hj
      · rw [hblk l2] at hb'
        cases hb'
        exact ⟨I.own o _ _ hx (hblk l), hMb, fun o' x hn' h1 h3 => hne o' x _ hn' h1 h3 rfl⟩
/-- the slice of a row -/
theorem row_slice {o ver len : Nat} {r : Value} {f : Nat → Option RI} {ri : RI} (h : VR M G (.row o ver 0 len) r) (hg : G o = some (.row f)) (hv : f ver = some ri) : ∃ a, r = .slice a len ri.cap ∧ rowA ri 0 a := by
  cases h with
  | row _ _ _ _ f' ri' a hg' hv' hl ha =>
    rw [hg] at hg'; cases hg'
    rw [hv] at hv'; cases hv'
    exact ⟨a, by rw [Nat.sub_zero], ha⟩
end
section
variable {L : Lg} {f : FuncId} {ob : OT} {o ver : Nat} {l : List Int}
theorem row_get {M : Mem} {G : Gh} {F : Nat → Prop} {n0 : Nat} {w : World} (I : Inv F n0 w M G ob) (hx : getO ob o = some (.row 1 ver (l.map eN))) : ∃ f ri, G o = some (.row f) ∧ f ver = some ri := by
  generalize hes : l.map eN = es at hx
  have hobj := I.obj o _ hx
  cases hobj with
  | nil _ _ f ri hg hv => exact ⟨f, ri, hg, hv⟩
  | row _ _ _ f ri b st arr T hg hv => exact ⟨f, ri, hg, hv⟩
theorem one_arg {M : Mem} {G : Gh} {v : V} {rs : Array Value} (hl : [v].length = rs.size) (ha : ∀ j c, [v][j]? = some c → VR M G c (rs.getD j undef)) : ∃ r, rs = #[r] ∧ VR M G v r := by
  have hs : rs.size = 1 := hl.symm
  refine ⟨rs.getD 0 undef, ?_, ha 0 v rfl⟩
  apply Array.ext
  · simpa using hs
  · intro i h1 h2
    have : i = 0 := by omega
    subst this
    simp [Array.getD, h1]
theorem Valid.sort (hf : FnOk L.P f) (hx : getO ob o = some (.row 1 ver (l.map eN))) (hl : l.length < 4611686018427387904)
    (h0 : ∀ (p : Option Addr) (cap : Nat) (w : World), Calls L.P f #[.slice p 0 cap] w fun e w' => e = .returned (.tuple #[]) ∧ w' = w)
    (h : ∀ (blk off cap : Nat) (zs : List Int) (w : World), Holds (Value.int .i64) w blk off zs.toArray → blk < w.heap.size → zs.length < 4611686018427387904 →
      Calls L.P f #[.slice (some ⟨blk, off, none⟩) zs.length cap] w fun e w' => e = .returned (.tuple #[]) ∧ ∃ n os, w' = grow (putRow (Value.int .i64) (Sort.ahead w n) blk off (zs.mergeSort fun x y => decide (x ≤ y)).toArray) os) :
    Valid L f [.row o ver 0 l.length] ob (.tup []) (ob.set o (some (.row 1 ver ((l.mergeSort fun x y => decide (x ≤ y)).map eN)))) := by
  refine ⟨hf, by simp, fun w M G rs I hg hls ha => ?_⟩
  obtain ⟨r, rfl, hr⟩ := one_arg hls ha
  obtain ⟨f', ri, hgo, hgv⟩ := row_get I hx
  obtain ⟨a, rfl, hra⟩ := row_slice hr hgo hgv
  have htup : ∀ M' : Mem, ∀ G' : Gh, VR M' G' (.tup []) (.tuple #[]) := fun _ _ => .tup _ _ rfl (fun j c hj => by simp at hj)
  by_cases hn : l = []
  · subst hn
    refine (h0 a ri.cap w).mono ?_
    rintro e w' ⟨rfl, rfl⟩
    have e1 : ob.set o (some (.row 1 ver ((([] : List Int).mergeSort fun x y => decide (x ≤ y)).map eN))) = ob := by
      simp only [List.mergeSort_nil]
      first | exact (set_own hx).symm | exact set_own hx
    exact ⟨_, M, G, rfl, Mle.refl _, Gle.refl _, htup M G, by rw [e1]; exact I, FrS.refl _ _ _, fun _ _ h => h⟩
  · obtain ⟨b, st, ri2, f2, g1, g2, g3, g4, g5, g6, g7, g8, g9⟩ := row_put I hx hn
    rw [hgo] at g1; cases g1
    rw [hgv] at g2; cases g2
    have hpos : 0 < l.length := by cases l with | nil => exact absurd rfl hn | cons a r => simp
    obtain ⟨b', st', e1, e2⟩ := hra (by omega)
    rw [g3] at e1; cases e1
    subst e2
    rw [Nat.zero_mul, Nat.add_zero]
    refine (h b st ri.cap l w g5 g6 hl).mono ?_
    rintro e w' ⟨rfl, n, os, rfl⟩
    have hp := List.mergeSort_perm l (fun x y => decide (x ≤ y))
    have hlen := hp.length_eq
    have hold : ∀ b', b' < w.heap.size → (grow (putRow (Value.int .i64) (Sort.ahead w n) b st (l.mergeSort fun x y => decide (x ≤ y)).toArray) os).heap[b']? = (putRow (Value.int .i64) w b st (l.mergeSort fun x y => decide (x ≤ y)).toArray).heap[b']? := fun b' hb' => by
      have : (putRow (Value.int .i64) (Sort.ahead w n) b st (l.mergeSort fun x y => decide (x ≤ y)).toArray).heap = (putRow (Value.int .i64) w b st (l.mergeSort fun x y => decide (x ≤ y)).toArray).heap := rfl
      simp only [grow, this]
      rw [Array.getElem?_append_left (by rw [size_putRow]; exact hb')]
    have hoth : ∀ b', b' ≠ b → b' < w.heap.size → (grow (putRow (Value.int .i64) (Sort.ahead w n) b st (l.mergeSort fun x y => decide (x ≤ y)).toArray) os).heap[b']? = w.heap[b']? := fun b' hb1 hb2 => by
      rw [hold b' hb2, put_other hb1]
    refine ⟨_, M, G, rfl, Mle.refl _, Gle.refl _, htup M G, g9 _ _ (l.mergeSort fun x y => decide (x ≤ y)).toArray (by simp) (by simp) (fun i x hi => ?_) (hold b g6) hoth, ⟨rfl, rfl, rfl, by simp, fun b' hb' hF => ?_⟩, fun _ _ h => h⟩
    · generalize (l.mergeSort fun x y => decide (x ≤ y)) = ms at hi
      have hi' := (List.getElem?_eq_some_iff.1 hi)
      simp [hi'.1, hi'.2]
    · have : b' ≠ b := fun e => by subst e; rcases g8 with h | h; exact hF h; omega
      exact hoth b' this hb'
theorem Valid.compact (hf : FnOk L.P f) (hx : getO ob o = some (.row 1 ver (l.map eN))) (hl : l.length ≤ 9223372036854775807)
    (h0 : ∀ (p : Option Addr) (cap : Nat) (w : World), Calls L.P f #[.slice p 0 cap] w fun e w' => e = .returned (.slice p 0 cap) ∧ w' = w)
    (h : ∀ (blk off cap : Nat) (zs : List Int) (w : World), Holds (Value.int .i64) w blk off zs.toArray → zs.length ≤ 9223372036854775807 → zs.length ≤ cap →
      Calls L.P f #[.slice (some ⟨blk, off, none⟩) zs.length cap] w fun e w' => e = .returned (.slice (some ⟨blk, off, none⟩) (Lib.compact zs).length cap) ∧ ∃ q, w' = putRow (Value.int .i64) (Sort.ahead w q) blk off (Lib.compact zs ++ List.replicate (zs.length - (Lib.compact zs).length) 0).toArray) :
    Valid L f [.row o ver 0 l.length] ob (.row o ver 0 (Lib.compact l).length) (ob.set o (some (.row 1 ver ((Lib.compact l).map eN)))) := by
  refine ⟨hf, by simp, fun w M G rs I hg hls ha => ?_⟩
  obtain ⟨r, rfl, hr⟩ := one_arg hls ha
  obtain ⟨f', ri, hgo, hgv⟩ := row_get I hx
  obtain ⟨a, rfl, hra⟩ := row_slice hr hgo hgv
  by_cases hn : l = []
  · subst hn
    refine (h0 a ri.cap w).mono ?_
    rintro e w' ⟨rfl, rfl⟩
    have e0 : Lib.compact ([] : List Int) = [] := rfl
    have e1 : ob.set o (some (.row 1 ver ((Lib.compact ([] : List Int)).map eN))) = ob := by
      rw [e0]
      first | exact (set_own hx).symm | exact set_own hx
    exact ⟨_, M, G, rfl, Mle.refl _, Gle.refl _, by rw [e0]; exact hr, by rw [e1]; exact I, FrS.refl _ _ _, fun _ _ h => h⟩
  · obtain ⟨b, st, ri2, f2, g1, g2, g3, g4, g5, g6, g7, g8, g9⟩ := row_put I hx hn
    rw [hgo] at g1; cases g1
    rw [hgv] at g2; cases g2
    have hpos : 0 < l.length := by cases l with | nil => exact absurd rfl hn | cons a r => simp
    obtain ⟨b', st', e1, e2⟩ := hra (by omega)
    rw [g3] at e1; cases e1
    subst e2
    rw [Nat.zero_mul, Nat.add_zero]
    refine (h b st ri.cap l w g5 hl g7).mono ?_
    rintro e w' ⟨rfl, n, rfl⟩
    have hle := Lib.compact_length_le l
    generalize hd : (Lib.compact l ++ List.replicate (l.length - (Lib.compact l).length) 0).toArray = d
    have hds : d.size = l.length := by rw [← hd]; simp; omega
    have hoth : ∀ b', b' ≠ b → b' < w.heap.size → (putRow (Value.int .i64) (Sort.ahead w n) b st d).heap[b']? = w.heap[b']? := fun b' hb1 _ => put_other (w := w) (d := d) hb1
    refine ⟨_, M, G, rfl, Mle.refl _, Gle.refl _, ?_, g9 _ _ d hds (by omega) (fun i x hi => ?_) rfl hoth, ⟨rfl, rfl, rfl, by simp, fun b' hb' hF => ?_⟩, fun _ _ h => h⟩
    · have := VR.row (M := M) o ver 0 (Lib.compact l).length f' ri (some ⟨b, st, none⟩) hgo hgv (by omega) (fun _ => ⟨b, st, g3, by simp⟩)
      simpa using this
    · have hi' := (List.getElem?_eq_some_iff.1 hi)
      rw [← hd]
      generalize List.replicate (l.length - (Lib.compact l).length) (0 : Int) = rr
      generalize Lib.compact l = cc at hi hi'
      have : (cc ++ rr)[i]? = some x := by rw [List.getElem?_append_left hi'.1]; exact hi
      have h2 := (List.getElem?_eq_some_iff.1 this)
      simp [this]
    · have : b' ≠ b := fun e => by subst e; rcases g8 with h | h; exact hF h; omega
      exact hoth b' this hb'
end
end Go.Ab
end
