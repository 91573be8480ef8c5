/- A machine that carries out the translated code on data, and why it is right, part 13 -/
import Derived.Lib.RowBridge
import Derived.Lib.Slices
import Derived.Sort.Grow
import Derived.Sort.Row
import Derived.Test.YtmceiidhhpcjkaaDoorA12
set_option linter.all false
section
/- Rows of whole numbers that the library sorts, and compacts. -/
namespace Go.Ab
open Go Go.Sort
section
variable {F : Nat → Prop} {n0 : Nat} {w : World} {M : Mem} {G : Gh} {ob : OT}

def eN (n : Int) : List Tr := [.lit (.int .i64 n)]
theorem put_heap {w : World} {b st : Nat} {d : Array Int} {arr : Array Value} {T : TypeId} {fr : Nat × Nat} (hw : w.heap[b]? = some (.cells arr T fr)) : (putRow (Value.int .i64) w b st d).heap[b]? = some (.cells (putCells (Value.int .i64) st d arr) T fr) := by
  have hlt : b < w.heap.size := (Array.getElem?_eq_some_iff.1 hw).1
  simp only [putRow, mapBlock]
  rw [Array.getElem?_modify, if_pos rfl, hw]
  rfl
theorem put_other {w : World} {b b' st : Nat} {d : Array Int} (h : b' ≠ b) : (putRow (Value.int .i64) w b st d).heap[b']? = w.heap[b']? := by
  simp only [putRow, mapBlock]
  rw [Array.getElem?_modify, if_neg (Ne.symm h)]
theorem row_put (I : Inv F n0 w M G ob) {o ver : Nat} {l : List Int} (hx : getO ob o = some (.row 1 ver (l.map eN))) (hl : l ≠ []) :
    ∃ (b st : Nat) (ri : RI) (f : Nat → Option RI), G o = some (.row f) ∧ f ver = some ri ∧ ri.blk = some (b, st) ∧ ri.k = 1 ∧ Holds (Value.int .i64) w b st l.toArray ∧ b < w.heap.size ∧ l.length ≤ ri.cap ∧ (F b ∨ n0 ≤ b) ∧
    ∀ (w' : World) (l2 : List Int) (d : Array Int), d.size = l.length → l2.length ≤ d.size → (∀ (i : Nat) (x : Int), l2[i]? = some x → d[i]! = x) → w'.heap[b]? = (putRow (Value.int .i64) w b st d).heap[b]? →
      (∀ b', b' ≠ b → b' < w.heap.size → w'.heap[b']? = w.heap[b']?) → Inv F n0 w' M G (ob.set o (some (.row 1 ver (l2.map eN)))) := by
  have hpos : 0 < l.length := by cases l with | nil => exact absurd rfl hl | cons a r => simp
  have hx0 := hx
  generalize hes : l.map eN = es at hx
  have hobj := I.obj o _ hx
  cases hobj with
  | nil _ _ f ri hg hv hmax hk hb hcap => simp at hes; exact absurd hes hl
  | row _ _ _ f ri b st arr T hg hv hmax hk hb hw hcap hlen he h =>
    subst hes
    have hlt : b < w.heap.size := (Array.getElem?_eq_some_iff.1 hw).1
    have hlen' : l.length ≤ ri.cap := by simpa using hlen
    have hblk : ∀ l' : List Int, blkO G o (.row 1 ver (l'.map eN)) = some b := fun l' => by simp [blkO, hg, hv, hb]
    have hcell : ∀ j (hj : j < l.length), arr.getD (st + j) undef = .int .i64 l[j] := fun j hj => by
      have h1 := h j (eN l[j]) 0 (.lit (.int .i64 l[j])) (by simp [hj]) rfl
      rw [Nat.mul_one, Nat.add_zero] at h1
      generalize arr.getD (st + j) undef = z at h1
      cases h1; rfl
    have hcap' : st + ri.cap ≤ arr.size := by rw [Nat.mul_one] at hcap; exact hcap
    refine ⟨b, st, ri, f, hg, hv, hb, hk, fun j hj => ?_, hlt, hlen', I.own o _ b hx (hblk l), fun w' l2 d hd h2 hdl hwb hwo => ?_⟩
    · have hj' : j < l.length := by simpa using hj
      have h1 := hcell j hj'
      have hja : st + j < arr.size := by omega
      refine ⟨?_, ?_⟩
      · have h3 : arr[st + j]? = some (.int .i64 l[j]) := by rw [Array.getElem?_eq_getElem hja]; simpa [Array.getD, hja] using h1
        have : l.toArray[j]! = l[j] := by simp [hj']
        rw [this]
        simp [World.cell?, hw, h3]
      · simp [World.frozen?, hw]
    · rw [put_heap hw] at hwb
      have hne : ∀ o' x b', o' ≠ o → getO ob o' = some x → blkO G o' x = some b' → b' ≠ b := fun o' x b' hne h1 h2 hbb' => by subst hbb'; exact hne (I.dis o' o x _ b' h1 hx h2 (hblk l))
      have hMb := I.off o _ b hx (hblk l)
      refine I.upd (Mle.refl M) (Gle.refl G) (fun _ _ => rfl) (fun o' x b' hn' h1 h3 => hwo b' (hne o' x b' hn' h1 h3) (I.lt h1 h3)) (fun b' y hy => ?_) (fun o' x b' _ h1 h3 => I.off o' x b' h1 h3)
        (.row 1 ver (l2.map eN) f ri b st _ T hg hv hmax hk hb hwb (by simp [putCells]; omega) (by simp; omega) (fun e he' => ?_) ?_) (fun b' hb' => ?_) (getO_lt hx)
      · have : b' ≠ b := fun e => by subst e; rw [hMb] at hy; cases hy
        rw [hwo b' this (I.memlt hy)]; exact I.mem b' y hy
      · obtain ⟨x, _, rfl⟩ := List.mem_map.1 he'; rfl
      · intro i e j t hi hj
        simp only [List.getElem?_map, Option.map_eq_some_iff] at hi
        obtain ⟨x, hxi, rfl⟩ := hi
        have hil : i < l2.length := (List.getElem?_eq_some_iff.1 hxi).1
        match j, hj with
        | 0, hj =>
          simp only [eN, List.getElem?_cons_zero, Option.some.injEq] at hj
          subst hj
          have hdx := hdl i x hxi
          have : (putCells (Value.int .i64) st d arr).getD (st + i * 1 + 0) undef = .int .i64 x := by
            have hsz : st + i < arr.size := by omega
            simp only [putCells, Nat.mul_one, Nat.add_zero, Array.getD_eq_getD_getElem?, Array.getElem?_mapIdx, Array.getElem?_eq_getElem hsz, Option.map_some, Option.getD_some]
            rw [if_pos ⟨by omega, by omega⟩, show st + i - st = i by omega, hdx]
          rw [this]; exact .lit _ rfl
        | j + 1, hj => simp [eN] at hj
      · rw [hblk l2] at hb'
        cases hb'
        exact ⟨I.own o _ _ hx (hblk l), hMb, fun o' x hn' h1 h3 => hne o' x _ hn' h1 h3 rfl⟩
theorem row_slice {o ver len : Nat} {r : Value} {f : Nat → Option RI} {ri : RI} (h : VR M G (.row o ver 0 len) r) (hg : G o = some (.row f)) (hv : f ver = some ri) : ∃ a, r = .slice a len ri.cap ∧ rowA ri 0 a := by
  cases h with
  | row _ _ _ _ f' ri' a hg' hv' hl ha =>
    rw [hg] at hg'; cases hg'
    rw [hv] at hv'; cases hv'
    exact ⟨a, by rw [Nat.sub_zero], ha⟩
end
section
variable {L : Lg} {f : FuncId} {ob : OT} {o ver : Nat} {l : List Int}
theorem row_get {M : Mem} {G : Gh} {F : Nat → Prop} {n0 : Nat} {w : World} (I : Inv F n0 w M G ob) (hx : getO ob o = some (.row 1 ver (l.map eN))) : ∃ f ri, G o = some (.row f) ∧ f ver = some ri := by
  generalize hes : l.map eN = es at hx
  have hobj := I.obj o _ hx
  cases hobj with
  | nil _ _ f ri hg hv => exact ⟨f, ri, hg, hv⟩
  | row _ _ _ f ri b st arr T hg hv => exact ⟨f, ri, hg, hv⟩
theorem one_arg {M : Mem} {G : Gh} {v : V} {rs : Array Value} (hl : [v].length = rs.size) (ha : ∀ j c, [v][j]? = some c → VR M G c (rs.getD j undef)) : ∃ r, rs = #[r] ∧ VR M G v r := by
  have hs : rs.size = 1 := hl.symm
  refine ⟨rs.getD 0 undef, ?_, ha 0 v rfl⟩
  apply Array.ext
  · simpa using hs
  · intro i h1 h2
    have : i = 0 := by omega
    subst this
    simp [Array.getD, h1]
theorem Valid.sort (hf : FnOk L.P f) (hx : getO ob o = some (.row 1 ver (l.map eN))) (hl : l.length < 4611686018427387904)
    (h0 : ∀ (p : Option Addr) (cap : Nat) (w : World), Calls L.P f #[.slice p 0 cap] w fun e w' => e = .returned (.tuple #[]) ∧ w' = w)
    (h : ∀ (blk off cap : Nat) (zs : List Int) (w : World), Holds (Value.int .i64) w blk off zs.toArray → blk < w.heap.size → zs.length < 4611686018427387904 →
      Calls L.P f #[.slice (some ⟨blk, off, none⟩) zs.length cap] w fun e w' => e = .returned (.tuple #[]) ∧ ∃ n os, w' = grow (putRow (Value.int .i64) (Sort.ahead w n) blk off (zs.mergeSort fun x y => decide (x ≤ y)).toArray) os) :
    Valid L f [.row o ver 0 l.length] ob (.tup []) (ob.set o (some (.row 1 ver ((l.mergeSort fun x y => decide (x ≤ y)).map eN)))) := by
  refine ⟨hf, by simp, fun w M G rs I hg hls ha => ?_⟩
  obtain ⟨r, rfl, hr⟩ := one_arg hls ha
  obtain ⟨f', ri, hgo, hgv⟩ := row_get I hx
  obtain ⟨a, rfl, hra⟩ := row_slice hr hgo hgv
  have htup : ∀ M' : Mem, ∀ G' : Gh, VR M' G' (.tup []) (.tuple #[]) := fun _ _ => .tup _ _ rfl (fun j c hj => by simp at hj)
  by_cases hn : l = []
  · subst hn
    refine (h0 a ri.cap w).mono ?_
    rintro e w' ⟨rfl, rfl⟩
    have e1 : ob.set o (some (.row 1 ver ((([] : List Int).mergeSort fun x y => decide (x ≤ y)).map eN))) = ob := by
      simp only [List.mergeSort_nil]
      first | exact (set_own hx).symm | exact set_own hx
    exact ⟨_, M, G, rfl, Mle.refl _, Gle.refl _, htup M G, by rw [e1]; exact I, FrS.refl _ _ _, fun _ _ h => h⟩
  · obtain ⟨b, st, ri2, f2, g1, g2, g3, g4, g5, g6, g7, g8, g9⟩ := row_put I hx hn
    rw [hgo] at g1; cases g1
    rw [hgv] at g2; cases g2
    have hpos : 0 < l.length := by cases l with | nil => exact absurd rfl hn | cons a r => simp
    obtain ⟨b', st', e1, e2⟩ := hra (by omega)
    rw [g3] at e1; cases e1
    subst e2
    rw [Nat.zero_mul, Nat.add_zero]
    refine (h b st ri.cap l w g5 g6 hl).mono ?_
    rintro e w' ⟨rfl, n, os, rfl⟩
    have hp := List.mergeSort_perm l (fun x y => decide (x ≤ y))
    have hlen := hp.length_eq
    have hold : ∀ b', b' < w.heap.size → (grow (putRow (Value.int .i64) (Sort.ahead w n) b st (l.mergeSort fun x y => decide (x ≤ y)).toArray) os).heap[b']? = (putRow (Value.int .i64) w b st (l.mergeSort fun x y => decide (x ≤ y)).toArray).heap[b']? := fun b' hb' => by
      have : (putRow (Value.int .i64) (Sort.ahead w n) b st (l.mergeSort fun x y => decide (x ≤ y)).toArray).heap = (putRow (Value.int .i64) w b st (l.mergeSort fun x y => decide (x ≤ y)).toArray).heap := rfl
      simp only [grow, this]
      rw [Array.getElem?_append_left (by rw [size_putRow]; exact hb')]
    have hoth : ∀ b', b' ≠ b → b' < w.heap.size → (grow (putRow (Value.int .i64) (Sort.ahead w n) b st (l.mergeSort fun x y => decide (x ≤ y)).toArray) os).heap[b']? = w.heap[b']? := fun b' hb1 hb2 => by
      rw [hold b' hb2, put_other hb1]
    refine ⟨_, M, G, rfl, Mle.refl _, Gle.refl _, htup M G, g9 _ _ (l.mergeSort fun x y => decide (x ≤ y)).toArray (by simp) (by simp) (fun i x hi => ?_) (hold b g6) hoth, ⟨rfl, rfl, rfl, by simp, fun b' hb' hF => ?_⟩, fun _ _ h => h⟩
    · generalize (l.mergeSort fun x y => decide (x ≤ y)) = ms at hi
      have hi' := (List.getElem?_eq_some_iff.1 hi)
      simp [hi'.1, hi'.2]
    · have : b' ≠ b := fun e => by subst e; rcases g8 with h | h; exact hF h; omega
      exact hoth b' this hb'
theorem Valid.compact (hf : FnOk L.P f) (hx : getO ob o = some (.row 1 ver (l.map eN))) (hl : l.length ≤ 9223372036854775807)
    (h0 : ∀ (p : Option Addr) (cap : Nat) (w : World), Calls L.P f #[.slice p 0 cap] w fun e w' => e = .returned (.slice p 0 cap) ∧ w' = w)
    (h : ∀ (blk off cap : Nat) (zs : List Int) (w : World), Holds (Value.int .i64) w blk off zs.toArray → zs.length ≤ 9223372036854775807 → zs.length ≤ cap →
      Calls L.P f #[.slice (some ⟨blk, off, none⟩) zs.length cap] w fun e w' => e = .returned (.slice (some ⟨blk, off, none⟩) (Lib.compact zs).length cap) ∧ ∃ q, w' = putRow (Value.int .i64) (Sort.ahead w q) blk off (Lib.compact zs ++ List.replicate (zs.length - (Lib.compact zs).length) 0).toArray) :
    Valid L f [.row o ver 0 l.length] ob (.row o ver 0 (Lib.compact l).length) (ob.set o (some (.row 1 ver ((Lib.compact l).map eN)))) := by
  refine ⟨hf, by simp, fun w M G rs I hg hls ha => ?_⟩
  obtain ⟨r, rfl, hr⟩ := one_arg hls ha
  obtain ⟨f', ri, hgo, hgv⟩ := row_get I hx
  obtain ⟨a, rfl, hra⟩ := row_slice hr hgo hgv
  by_cases hn : l = []
  · subst hn
    refine (h0 a ri.cap w).mono ?_
    rintro e w' ⟨rfl, rfl⟩
    have e0 : Lib.compact ([] : List Int) = [] := rfl
    have e1 : ob.set o (some (.row 1 ver ((Lib.compact ([] : List Int)).map eN))) = ob := by
      rw [e0]
      first | exact (set_own hx).symm | exact set_own hx
    exact ⟨_, M, G, rfl, Mle.refl _, Gle.refl _, by rw [e0]; exact hr, by rw [e1]; exact I, FrS.refl _ _ _, fun _ _ h => h⟩
  · obtain ⟨b, st, ri2, f2, g1, g2, g3, g4, g5, g6, g7, g8, g9⟩ := row_put I hx hn
    rw [hgo] at g1; cases g1
    rw [hgv] at g2; cases g2
    have hpos : 0 < l.length := by cases l with | nil => exact absurd rfl hn | cons a r => simp
    obtain ⟨b', st', e1, e2⟩ := hra (by omega)
    rw [g3] at e1; cases e1
    subst e2
    rw [Nat.zero_mul, Nat.add_zero]
    refine (h b st ri.cap l w g5 hl g7).mono ?_
    rintro e w' ⟨rfl, n, rfl⟩
    have hle := Lib.compact_length_le l
    generalize hd : (Lib.compact l ++ List.replicate (l.length - (Lib.compact l).length) 0).toArray = d
    have hds : d.size = l.length := by rw [← hd]; simp; omega
    have hoth : ∀ b', b' ≠ b → b' < w.heap.size → (putRow (Value.int .i64) (Sort.ahead w n) b st d).heap[b']? = w.heap[b']? := fun b' hb1 _ => put_other (w := w) (d := d) hb1
    refine ⟨_, M, G, rfl, Mle.refl _, Gle.refl _, ?_, g9 _ _ d hds (by omega) (fun i x hi => ?_) rfl hoth, ⟨rfl, rfl, rfl, by simp, fun b' hb' hF => ?_⟩, fun _ _ h => h⟩
    · have := VR.row (M := M) o ver 0 (Lib.compact l).length f' ri (some ⟨b, st, none⟩) hgo hgv (by omega) (fun _ => ⟨b, st, g3, by simp⟩)
      simpa using this
    · have hi' := (List.getElem?_eq_some_iff.1 hi)
      rw [← hd]
      generalize List.replicate (l.length - (Lib.compact l).length) (0 : Int) = rr
      generalize Lib.compact l = cc at hi hi'
      have : (cc ++ rr)[i]? = some x := by rw [List.getElem?_append_left hi'.1]; exact hi
      have h2 := (List.getElem?_eq_some_iff.1 this)
      simp [this]
    · have : b' ≠ b := fun e => by subst e; rcases g8 with h | h; exact hF h; omega
      exact hoth b' this hb'
end
end Go.Ab
end
section
/- A row of the caller's that is taken: it goes on as an object of one's own. -/
namespace Go.Ab
open Go
def takeF (f : Nat → Option RI) (ver : Nat) : Nat → Option RI := fun v => if v = 0 then f ver else none
def VT (n r ver : Nat) (v v' : V) : Prop := ∀ (M : Mem) (G : Gh) (x : Value) (f : Nat → Option RI), G r = some (.row f) → G n = some (.row (takeF f ver)) → VR M G v x → VR M G v' x
theorem VT.refl {n r ver : Nat} {v : V} : VT n r ver v v := fun _ _ _ _ _ _ h => h
theorem VT.row {n n' r ver off len : Nat} (hn : n' = n := by first | rfl | simp) : VT n r ver (.row r ver off len) (.row n' 0 off len) := fun M G x f h1 h2 h => by
  subst hn
  cases h with
  | row _ _ _ _ f' ri a hg hv hl ha =>
    rw [h1] at hg; cases hg
    exact .row n' 0 off len _ ri a h2 (by simp [takeF, hv]) hl ha
theorem VT.agg {n r ver : Nat} {cs cs' : List V} (h : SlR (VT n r ver) cs cs') : VT n r ver (.agg cs) (.agg cs') := fun M G x f h1 h2 hr => by
  cases hr with
  | agg _ vs hl hh => exact .agg cs' vs (h.length ▸ hl) (fun j c hj => by
      obtain ⟨v, hv, hR⟩ := h.get hj
      exact hR M G _ f h1 h2 (hh j v hv))
def TK (k : Nat) (es : List (List Tr)) (r ver : Nat) (ob ob' : OT) : Prop := ob'.length = ob.length + 1 ∧ getO ob' ob.length = some (.row k 0 es) ∧ ∀ o x', o < ob.length → getO ob' o = some x' → o ≠ r ∧ ∃ x, getO ob o = some x ∧ OR (VT ob.length r ver) x x'
section
variable {F : Nat → Prop} {n0 : Nat} {w : World} {M : Mem} {G : Gh} {ob ob' : OT}
theorem Inv.take (I : Inv F n0 w M G ob) {k r ver : Nat} {es : List (List Tr)} (hr : getO ob r = some (.row k ver es)) (h : TK k es r ver ob ob') :
    ∃ f, G r = some (.row f) ∧ Gle G (setG G ob.length (.row (takeF f ver))) ∧ Inv F n0 w M (setG G ob.length (.row (takeF f ver))) ob' := by
  obtain ⟨h1, h2, h3⟩ := h
  have hG : G ob.length = none := by
    cases hg : G ob.length with
    | none => rfl
    | some g => have := I.dom _ _ hg; omega
  have hrl := getO_lt hr
  obtain ⟨f, hf⟩ : ∃ f, G r = some (.row f) := by
    cases I.obj r _ hr with
    | row _ _ _ f ri b st arr T hg => exact ⟨f, hg⟩
    | nil _ _ f ri hg => exact ⟨f, hg⟩
  refine ⟨f, hf, ?_⟩
  have hle : Gle G (setG G ob.length (.row (takeF f ver))) := Gle.setG (fun g' hg => by rw [hG] at hg; cases hg)
  have hlow : ∀ o, o < ob.length → setG G ob.length (.row (takeF f ver)) o = G o := fun o ho => setG_ne G _ (by omega)
  have hfr : setG G ob.length (.row (takeF f ver)) r = some (.row f) := by rw [hlow r hrl, hf]
  have hblk : ∀ o x x', o < ob.length → OR (VT ob.length r ver) x x' → blkO (setG G ob.length (.row (takeF f ver))) o x' = blkO G o x := by
    intro o x x' ho hR
    cases hR with
    | box => simp [blkO, hlow o ho]
    | same => exact blkO_congr (hlow o ho) x
  have hcase : ∀ {o x b}, getO ob' o = some x → blkO (setG G ob.length (.row (takeF f ver))) o x = some b → ∃ i y, getO ob i = some y ∧ blkO G i y = some b ∧ ((o < ob.length ∧ i = o ∧ o ≠ r) ∨ (o = ob.length ∧ i = r)) := by
    intro o x b hx hb
    have hlt : o < ob.length + 1 := by have := getO_lt hx; omega
    by_cases ho : o = ob.length
    · subst ho
      rw [h2] at hx; cases hx
      refine ⟨r, _, hr, ?_, .inr ⟨rfl, rfl⟩⟩
      simpa [blkO, setG_self, takeF, hf] using hb
    · obtain ⟨hne, y, hy, hR⟩ := h3 o x (by omega) hx
      exact ⟨o, y, hy, by rw [← hblk o y x (by omega) hR]; exact hb, .inl ⟨by omega, rfl, hne⟩⟩
  refine ⟨hle, I.mem, fun o x hx => ?_, fun o o' x x' b hx hx' hb hb' => ?_, fun o x b hx hb => ?_, fun o x b hx hb => ?_, fun o g hg => ?_⟩
  · have hlt : o < ob.length + 1 := by have := getO_lt hx; omega
    by_cases ho : o = ob.length
    · subst ho
      rw [h2] at hx; cases hx
      have hmx : ∀ v, 0 < v → takeF f ver v = none := fun v hv => if_neg (by omega)
      cases I.obj r _ hr with
      | row _ _ _ f' ri b st arr T hg hv hmax hk hb hw hcap hlen he hc =>
        rw [hf] at hg; cases hg
        exact .row k 0 es _ ri b st arr T (setG_self _ _ _) (by simp [takeF, hv]) hmx hk hb hw hcap hlen he hc
      | nil _ _ f' ri hg hv hmax hk hb hcap =>
        rw [hf] at hg; cases hg
        exact .nil k 0 _ ri (setG_self _ _ _) (by simp [takeF, hv]) hmx hk hb hcap
    · obtain ⟨hne, y, hy, hR⟩ := h3 o x (by omega) hx
      have hO := (I.obj o y hy).mono (Mle.refl M) hle (hlow o (by omega)) (fun _ _ => rfl)
      cases hR with
      | same => exact hO
      | box cs cs' hs =>
        cases hO with
        | box _ b arr T hg hw hl hh => exact .box cs' b arr T hg hw (hl.trans hs.length) (fun j c hj => by
            obtain ⟨v, hv, hR⟩ := hs.get hj
            exact hR M _ _ f hfr (setG_self _ _ _) (hh j v hv))
  · obtain ⟨i, y, hy, hb, hc⟩ := hcase hx hb
    obtain ⟨i', y', hy', hb', hc'⟩ := hcase hx' hb'
    have hi := I.dis i i' y y' b hy hy' hb hb'
    subst hi
    rcases hc with ⟨c1, rfl, c3⟩ | ⟨c1, rfl⟩ <;> rcases hc' with ⟨d1, d2, d3⟩ | ⟨d1, d2⟩
    · exact d2
    · exact absurd d2 c3
    · exact absurd d2.symm d3
    · rw [c1, d1]
  · obtain ⟨i, y, hy, hb, _⟩ := hcase hx hb
    exact I.off i y b hy hb
  · obtain ⟨i, y, hy, hb, _⟩ := hcase hx hb
    exact I.own i y b hy hb
  · rw [h1]
    by_cases ho : o = ob.length
    · omega
    · rw [setG_ne G _ ho] at hg
      have := I.dom o g hg
      omega
end
section
variable {L : Lg} {m n : Nat}
theorem Wk.take {k r ver : Nat} {es : List (List Tr)} {s s' : List V} {ob ob' : OT} (hr : getO ob r = some (.row k ver es)) (hs : SlR (VT ob.length r ver) s s') (ho : TK k es r ver ob ob') : Wk L m ⟨s, ob⟩ ⟨s', ob'⟩ := by
  intro X a w hm ⟨M, G, R⟩
  obtain ⟨f, hf, hle, hI⟩ := R.inv.take hr ho
  have hlow := R.low
  have e1 := ho.1
  have hrl : r < ob.length := getO_lt hr
  refine ⟨M, _, ⟨R.m, R.g.trans hle, hI, R.fr, R.glob, hs.length.symm.trans R.len, fun t v hv => ?_, fun o h1 h2 => ?_, ?_, R.size, R.defers, R.dom0⟩⟩
  · obtain ⟨v0, h0, hR⟩ := hs.get hv
    exact hR M _ _ f (by rw [setG_ne G _ (Nat.ne_of_lt hrl)]; exact hf) (setG_self _ _ _) ((R.slots t v0 h0).mono (Mle.refl M) hle)
  · have := R.free o h1 h2
    have hne : o ≠ ob.length := fun e => by simp only [e] at h1; exact absurd (Nat.lt_of_lt_of_le h1 hlow) (Nat.lt_irrefl _)
    rw [setG_ne G _ hne]; exact this
  · exact Nat.le_trans hlow (by show ob.length ≤ ob'.length; omega)
theorem To.take {k r ver : Nat} {es : List (List Tr)} {as as' : AS} {ob ob' : OT} (hr : getO ob r = some (.row k ver es)) (h : entR (VT ob.length r ver) as as') (ht : TK k es r ver ob ob') : To L m n as ob as' ob' :=
  Wk.take hr (slR_mkS (fun _ => fun _ _ x _ _ _ _ => .junk x) h) ht
theorem TK.one {k r ver : Nat} {es : List (List Tr)} {ob : OT} (hr : getO ob r = some (.row k ver es)) : TK k es r ver ob (ob.set r none ++ [some (.row k 0 es)]) := by
  have hrl : r < ob.length := getO_lt hr
  refine ⟨by simp, ?_, fun o x' ho hx => ?_⟩
  · have := getO_app (ob := ob.set r none) (l := [some (O.row k 0 es)]) (i := 0); rw [show getO [some (O.row k 0 es)] 0 = some (O.row k 0 es) from rfl] at this; simpa using this
  · rw [getO_low (by simpa using ho)] at hx
    by_cases he : o = r
    · subst he; rw [getO_self hrl] at hx; cases hx
    · refine ⟨he, x', ?_, .same _⟩
      rw [← hx]; simp [getO, List.getElem?_set_ne (Ne.symm he)]
theorem TK.two {k r ver o : Nat} {es : List (List Tr)} {ob : OT} {cs cs' : List V} (hr : getO ob r = some (.row k ver es)) (hx : getO ob o = some (.box cs)) (hc : SlR (VT ob.length r ver) cs cs') : TK k es r ver ob ((ob.set r none).set o (some (.box cs')) ++ [some (.row k 0 es)]) := by
  have hrl : r < ob.length := getO_lt hr
  have hol : o < ob.length := getO_lt hx
  have hne : o ≠ r := fun e => by subst e; rw [hr] at hx; cases hx
  refine ⟨by simp, ?_, fun i x' hi hx' => ?_⟩
  · have := getO_app (ob := (ob.set r none).set o (some (.box cs'))) (l := [some (O.row k 0 es)]) (i := 0); rw [show getO [some (O.row k 0 es)] 0 = some (O.row k 0 es) from rfl] at this; simpa using this
  · rw [getO_low (by simpa using hi)] at hx'
    by_cases h1 : i = o
    · subst h1
      rw [getO_self (by simpa using hol)] at hx'
      cases hx'
      exact ⟨hne, _, hx, .box _ _ hc⟩
    · by_cases h2 : i = r
      · subst h2
        simp [getO, List.getElem?_set_ne (Ne.symm h1), List.getElem?_set_self hrl] at hx'
      · refine ⟨h2, x', ?_, .same _⟩
        rw [← hx']; simp [getO, List.getElem?_set_ne (Ne.symm h1), List.getElem?_set_ne (Ne.symm h2)]
theorem Valid.ghost {f : FuncId} {args args' : List V} {ob obg ob' : OT} {res : V} {k : Nat} (hs : SlR (VG ob.length k) args args') (ho : TG k ob obg) (h : Valid L f args' obg res ob') : Valid L f args ob res ob' := by
  obtain ⟨h1, h2, h3⟩ := h
  have e1 := ho.1
  refine ⟨h1, by omega, fun w M G rs I hγ hln hv => ?_⟩
  obtain ⟨hle, hI⟩ := I.ghosts ho
  have hfb : ∀ b, FB (setG G ob.length (ghostI k)) obg b → FB G ob b := by
    rintro b ⟨o, x, hx, hb⟩
    by_cases he : o = ob.length
    · subst he
      rw [ho.2.1] at hx; cases hx
      simp [blkO, setG_self, ghostI] at hb
    · have hlt : o < ob.length := by have := getO_lt hx; omega
      obtain ⟨y, hy, hR⟩ := ho.2.2 o x hlt hx
      refine ⟨o, y, hy, ?_⟩
      cases hR with
      | box => simpa [blkO, setG_ne G _ he] using hb
      | same => rw [← hb]; exact (blkO_congr (setG_ne G _ he) _).symm
  have hI2 : Inv (FB (setG G ob.length (ghostI k)) obg) w.heap.size w M (setG G ob.length (ghostI k)) obg := ⟨hI.mem, hI.obj, hI.dis, hI.off, fun o x b h hb => .inl ⟨o, x, h, hb⟩, hI.dom⟩
  refine (h3 w M _ rs hI2 hγ (hs.length ▸ hln) (fun j c hj => ?_)).mono ?_
  · obtain ⟨v, h0, hR⟩ := hs.get hj
    exact hR M _ _ (setG_self _ _ _) ((hv j v h0).mono (Mle.refl M) hle)
  · rintro e w' ⟨r, M2, G2, he, hM, hG, hr', I', fr, free⟩
    have hG0 : G ob.length = none := by
      cases hg : G ob.length with
      | none => rfl
      | some g => have := I.dom _ _ hg; omega
    refine ⟨r, M2, G2, he, hM, hle.trans hG, hr', ⟨I'.mem, I'.obj, I'.dis, I'.off, fun o x b h hb => ?_, I'.dom⟩, ⟨fr.os, fr.tape, fr.output, fr.size, fun b hb hF => fr.block b hb (fun hF' => hF (hfb b hF'))⟩, fun o ho' hg => free o (by omega) (by rw [setG_ne G _ (by omega)]; exact hg)⟩
    rcases I'.own o x b h hb with h' | h'
    · exact .inl (hfb b h')
    · exact .inr h'
end
end Go.Ab
end
section
/- Objects that move, while a struct of the caller's leads to them. -/
namespace Go.Ab
open Go
section
variable {m : Nat}
inductive OL (m : Nat) (ρ : List (Nat × Nat)) : O → O → Prop
  | le {x x' : O} (h : OLe m x x') : OL m ρ x x'
  | box (cs cs' : List V) (h : SlR (VM m ρ) cs cs') : OL m ρ (.box cs) (.box cs')
def TM2 (m : Nat) (ρ : List (Nat × Nat)) (ob ob' : OT) : Prop := ob'.length = m + ρ.length ∧ (∀ o x', o < m → getO ob' o = some x' → ∃ x, getO ob o = some x ∧ OL m ρ x x') ∧
  (∀ t i ver, ρ[t]? = some (i, ver) → m ≤ i ∧ ∀ x', getO ob' (m + t) = some x' → ∃ x, getO ob i = some x ∧ OM m ρ ver x x') ∧ (ρ.map (·.1)).Nodup
theorem Inv.move2 {F : Nat → Prop} {n0 : Nat} {w : World} {M : Mem} {G : Gh} {ρ : List (Nat × Nat)} {ob ob' : OT} (h5 : Inv F n0 w M G ob) (ho : TM2 m ρ ob ob') : Inv F n0 w M (mvG m ρ G) ob' := by
  obtain ⟨e1, e2, e3, e4⟩ := ho
  have low : ∀ {o}, o < m → mvG m ρ G o = G o := fun ho => mvG_lt ho
  -- each object comes from an elder one
  have hcase : ∀ {o x'}, getO ob' o = some x' → (o < m ∧ ∃ x, getO ob o = some x ∧ OL m ρ x x') ∨ ∃ t i ver x, o = m + t ∧ ρ[t]? = some (i, ver) ∧ m ≤ i ∧ getO ob i = some x ∧ OM m ρ ver x x' ∧ mvG m ρ G o = (G i).map (verG ver) := by
    intro o x' hx
    have hlt := getO_lt hx
    by_cases ho : o < m
    · obtain ⟨x, hx0, hle⟩ := e2 o x' ho hx
      exact .inl ⟨ho, x, hx0, hle⟩
    · have ht : o - m < ρ.length := by omega
      have hρ : ρ[o - m]? = some (ρ[o - m].1, ρ[o - m].2) := by simp [ht]
      obtain ⟨hm, hk⟩ := e3 (o - m) _ _ hρ
      obtain ⟨x, a1, a2⟩ := hk x' (by rw [show m + (o - m) = o by omega]; exact hx)
      refine .inr ⟨o - m, _, _, x, by omega, hρ, hm, a1, a2, ?_⟩
      have := mvG_at (m := m) (G := G) hρ
      rwa [show m + (o - m) = o by omega] at this
  have hblk : ∀ {o x' b}, getO ob' o = some x' → blkO (mvG m ρ G) o x' = some b → ∃ i x, getO ob i = some x ∧ blkO G i x = some b ∧ ((o < m ∧ i = o) ∨ (∃ t ver, o = m + t ∧ ρ[t]? = some (i, ver) ∧ m ≤ i)) := by
    intro o x' b hx hb
    rcases hcase hx with ⟨ho, x, hx0, hle⟩ | ⟨t, i, ver, x, rfl, hρ, hm, hi, hom, hg⟩
    · exact ⟨o, x, hx0, by rcases hle with h | _ <;> (try cases h) <;> simpa [blkO, low ho] using hb, .inl ⟨ho, rfl⟩⟩
    · refine ⟨i, _, hi, ?_, .inr ⟨t, ver, rfl, hρ, hm⟩⟩
      cases hom <;> simp only [blkO, hg] at hb ⊢ <;> cases hG : G i with
      | none => simp [hG] at hb
      | some g => cases g <;> simp [hG, verG] at hb ⊢ <;> exact hb
  refine ⟨h5.mem, fun o x' hx => ?_, fun o o' x x' b hx hx' hb hb' => ?_, fun o x b hx hb => ?_, fun o x b hx hb => ?_, fun o g hg => ?_⟩
  · rcases hcase hx with ⟨ho, x, hx0, hle⟩ | ⟨t, i, ver, x, rfl, hρ, hm, hi, hom, hg⟩
    · have hO := h5.obj o x hx0
      have hg : mvG m ρ G o = G o := low ho
      cases hle with
      | box cs cs' hs =>
        cases hO with
        | box _ b arr T hg' hw hl hh' =>
          refine .box cs' b arr T (by rw [hg]; exact hg') hw (hl.trans hs.length) (fun j c hj => ?_)
          obtain ⟨v0, hv0, hR⟩ := hs.get hj
          exact hR M G _ (hh' j v0 hv0)
      | le hle =>
        cases hle with
        | box cs cs' hs =>
          cases hO with
          | box _ b arr T hg' hw hl hh' =>
            refine .box cs' b arr T (by rw [hg]; exact hg') hw (hl.trans hs.length) (fun j c hj => ?_)
            obtain ⟨v0, hv0, hR⟩ := hs.get hj
            have := hR M G _ (hh' j v0 hv0)
            have key : ∀ {c : V} {r : Value}, VR M (cutG m G) c r → VR M (mvG m ρ G) c r := fun h => h.mono (Mle.refl M) (fun o g hg => ⟨g, by obtain ⟨q1, q2⟩ := cutG_some hg; rw [low q1]; exact q2, GI.le_refl g⟩)
            exact key this
        | row k ver es =>
          cases hO with
          | row _ _ _ f ri b st arr T hg' hv' hmax hk hb hw hcap hlen he h => exact .row k ver es f ri b st arr T (by rw [hg]; exact hg') hv' hmax hk hb hw hcap hlen he h
          | nil _ _ f ri hg' hv' hmax hk hb hcap => exact .nil k ver f ri (by rw [hg]; exact hg') hv' hmax hk hb hcap
        | iter s pos =>
          cases hO with
          | iter _ _ b hg' hw => exact .iter s pos b (by rw [hg]; exact hg') hw
        | mp ks vs vs' hs =>
          cases hO with
          | mp _ _ b es hg' hw hk hbn hl hh' =>
            refine .mp ks vs' b es (by rw [hg]; exact hg') hw hk hbn (hs.length.symm.trans hl) (fun j c hj => ?_)
            obtain ⟨v0, hv0, hR⟩ := hs.get hj
            have := hR M G _ (hh' j v0 hv0)
            exact this.mono (Mle.refl M) (fun o g hg => ⟨g, by obtain ⟨q1, q2⟩ := cutG_some hg; rw [low q1]; exact q2, GI.le_refl g⟩)
        | mit mm c seen hmm =>
          cases hO with
          | mit _ _ _ b bm hg' hgm hw => exact .mit mm c seen b bm (by rw [hg]; exact hg') (by rw [low hmm]; exact hgm) hw
    · have hO := h5.obj i _ hi
      have hmx : ∀ (f : Nat → Option RI) (v : Nat), 0 < v → (if v = 0 then f ver else none) = none := fun f v hv => if_neg (by omega)
      cases hom with
      | box cs cs' hs =>
        cases hO with
        | box _ b arr T hg' hw hl hh' =>
          refine .box cs' b arr T (by rw [hg, hg']; rfl) hw (hl.trans hs.length) (fun j c hj => ?_)
          obtain ⟨v0, hv0, hR⟩ := hs.get hj
          exact hR M G _ (hh' j v0 hv0)
      | row k es =>
        cases hO with
        | row _ _ _ f ri b st arr T hg' hv' hmax hk hb hw hcap hlen he h => exact .row k 0 es (fun v => if v = 0 then f ver else none) ri b st arr T (by rw [hg, hg']; rfl) hv' (hmx f) hk hb hw hcap hlen he h
        | nil _ _ f ri hg' hv' hmax hk hb hcap => exact .nil k 0 (fun v => if v = 0 then f ver else none) ri (by rw [hg, hg']; rfl) hv' (hmx f) hk hb hcap
      | iter s pos =>
        cases hO with
        | iter _ _ b hg' hw => exact .iter s pos b (by rw [hg, hg']; rfl) hw
      | mp ks vs vs' hs =>
        cases hO with
        | mp _ _ b es hg' hw hk hbn hl hh' =>
          refine .mp ks vs' b es (by rw [hg, hg']; rfl) hw hk hbn (hs.length.symm.trans hl) (fun j c hj => ?_)
          obtain ⟨v0, hv0, hR⟩ := hs.get hj
          exact hR M G _ (hh' j v0 hv0)
      | mit o c seen t2 v2 h2 =>
        cases hO with
        | mit _ _ _ b bm hg' hgm hw => exact .mit (m + t2) c seen b bm (by rw [hg, hg']; rfl) (by rw [mvG_at h2, hgm]; rfl) hw
  · obtain ⟨i, y, hy, hbb, hh⟩ := hblk hx hb
    obtain ⟨i', y', hy', hbb', hh'⟩ := hblk hx' hb'
    have hi := h5.dis i i' y y' b hy hy' hbb hbb'
    subst hi
    rcases hh with ⟨ho, rfl⟩ | ⟨t, ver, rfl, ht, hm⟩ <;> rcases hh' with ⟨ho', h'⟩ | ⟨t', ver', rfl, ht', hm'⟩
    · exact h'
    · omega
    · omega
    · have : t = t' := by
        obtain ⟨hl, _⟩ := List.getElem?_eq_some_iff.1 ht
        have q1 : (ρ.map (·.1))[t]? = some i := by simp [ht]
        have q2 : (ρ.map (·.1))[t']? = some i := by simp [ht']
        exact (List.getElem?_inj (by simpa using hl) e4).1 (q1.trans q2.symm)
      rw [this]
  · obtain ⟨i, y, hy, hbb, _⟩ := hblk hx hb
    exact h5.off i y b hy hbb
  · obtain ⟨i, y, hy, hbb, _⟩ := hblk hx hb
    exact h5.own i y b hy hbb
  · rw [e1]
    unfold mvG at hg
    split at hg
    · omega
    · cases hr : ρ[o - m]? with
      | none => simp [hr] at hg
      | some i => have := (List.getElem?_eq_some_iff.1 hr).1; omega

theorem Rt.move2 {ρ : List (Nat × Nat)} {v v' : V} {ob ob' : OT} (hv : VM m ρ v v') (ho : TM2 m ρ ob ob') : Rt m v ob v' ob' := fun F n0 w M G0 G r h1 h2 h3 h4 h5 h6 =>
  ⟨M, mvG m ρ G, Mle.refl M, fun o g hg => by
      obtain ⟨g', a1, a2⟩ := h1 o g hg
      exact ⟨g', by rw [mvG_lt (h2 o g hg)]; exact a1, a2⟩, fun o ho hg => by rw [mvG_lt ho]; exact h3 o ho hg, by rw [ho.1]; omega, h5.move2 ho, hv M G r h6⟩

theorem Wk.move2 {L : Lg} {m' : Nat} {ρ : List (Nat × Nat)} {s s' : List V} {ob ob' : OT} (hm : m' ≤ m) (hs : SlR (VM m ρ) s s') (ho : TM2 m ρ ob ob') : Wk L m' ⟨s, ob⟩ ⟨s', ob'⟩ := by
  intro X a w hX ⟨M, G, R⟩
  refine ⟨M, mvG m ρ G, ⟨R.m, fun o g hg => ?_, R.inv.move2 ho, R.fr, R.glob, hs.length.symm.trans R.len, fun t v hv => ?_, fun o h1 h2 => ?_, ?_, R.size, R.defers, R.dom0⟩⟩
  · obtain ⟨g', a1, a2⟩ := R.g o g hg
    have := R.dom0 o g hg
    exact ⟨g', by rw [mvG_lt (by omega)]; exact a1, a2⟩
  · obtain ⟨v0, h0, hR⟩ := hs.get hv
    exact hR M G _ (R.slots t v0 h0)
  · rw [mvG_lt (by omega)]; exact R.free o h1 h2
  · show X.len0 ≤ ob'.length
    rw [ho.1]; omega
end
section
variable {ρ : List (Nat × Nat)}
def BaseM (ρ : List (Nat × Nat)) (b b' : OT) : Prop := b'.length = b.length ∧ ∀ o x', getO b' o = some x' → ∃ x, getO b o = some x ∧ OL b.length (abs b.length ρ) x x'
theorem BaseM.set {b : OT} {o : Nat} {cs cs' : List V} (h : TBd b.length b) (hx : SlR (VM b.length (abs b.length ρ)) cs cs') : BaseM ρ (b.set o (some (.box cs))) (b.set o (some (.box cs'))) := by
  refine ⟨by simp, fun o' y hy => ?_⟩
  by_cases ho : o' = o
  · subst ho
    have hl := getO_lt hy
    rw [List.length_set] at hl
    simp [getO, List.getElem?_set_self hl] at hy
    subst hy
    exact ⟨.box cs, by simp [getO, List.getElem?_set_self hl], .box _ _ (by simpa using hx)⟩
  · rw [getO_set_ne (Ne.symm ho)] at hy ⊢
    exact ⟨y, hy, .le (OLe.refl (by simpa using h o' y hy))⟩
theorem tm_of2 {b b' l l' : OT} (hb : BaseM ρ b b') (ho : objR b.length (abs b.length ρ) l ρ l') (hn : (ρ.map (·.1)).Nodup) : TM2 b.length (abs b.length ρ) (b ++ l) (b' ++ l') := by
  have hlen := objR_len ho
  refine ⟨by simp [abs, hb.1, hlen], fun o x' h hx => ?_, fun t i ver ht => ?_, ?_⟩
  · rw [getO_low (by rw [hb.1]; exact h)] at hx
    rw [getO_low h]
    exact hb.2 o x' hx
  · simp only [abs, List.getElem?_map, Option.map_eq_some_iff] at ht
    obtain ⟨⟨j, v⟩, h1, h2⟩ := ht
    simp only [Prod.mk.injEq] at h2
    obtain ⟨rfl, rfl⟩ := h2
    refine ⟨by omega, fun x' hx => ?_⟩
    rw [← hb.1, getO_app] at hx
    rw [getO_app]
    exact objR_get ho h1 hx
  · simp only [abs, List.map_map]
    have : ((fun p : Nat × Nat => p.1) ∘ fun p : Nat × Nat => (b.length + p.1, p.2)) = (fun x => b.length + x) ∘ (fun p : Nat × Nat => p.1) := rfl
    rw [this, ← List.map_map]
    generalize ρ.map (·.1) = q at hn
    induction q with
    | nil => simp
    | cons a r ih =>
      simp only [List.map_cons, List.nodup_cons, List.mem_map, not_exists, not_and] at hn ⊢
      exact ⟨fun x hx he => by have : x = a := by omega
                               subst this; exact hn.1 hx, ih hn.2⟩
end
section
variable {L : Lg} {m n : Nat} {as as' : AS} {b b' l l' : OT} {ρ : List (Nat × Nat)}
theorem To.mv2 (ρ : List (Nat × Nat)) (hb : BaseM ρ b b') (hm : m ≤ b.length) (hn : (ρ.map (·.1)).Nodup) (h : entR (VM b.length (abs b.length ρ)) as as') (ho : objR b.length (abs b.length ρ) l ρ l') : To L m n as (b ++ l) as' (b' ++ l') :=
  Wk.move2 hm (slR_mkS (VM.junk _) h) (tm_of2 hb ho hn)
theorem Rt.mv2 {v v' : V} (ρ : List (Nat × Nat)) (hb : BaseM ρ b b') (hm : m = b.length) (hn : (ρ.map (·.1)).Nodup) (h : VM b.length (abs b.length ρ) v v') (ho : objR b.length (abs b.length ρ) l ρ l') : Rt m v (b ++ l) v' (b' ++ l') := by
  subst hm
  exact Rt.move2 h (tm_of2 hb ho hn)
end
end Go.Ab
end
section
/- Pieces of a row that are frozen as an answer; rows frozen ahead of a call while a struct of the caller's is written; nil in a struct as a row. -/
namespace Go.Ab
open Go
section
variable {j ver k : Nat} {es : List (List Tr)}
theorem VZ.sub {kk : Nat} {v v' : V} {lo n : Nat} {f : Bool} (h : VZ j ver k es v v') : VZ j ver k es (.sub kk v lo n f) (.sub kk v' lo n f) := fun M G r hg hr => by
  cases hr with
  | sub _ _ _ _ _ a a' n0 c0 m h1 hlo hm hm2 hf ha => exact .sub _ _ _ _ _ a a' n0 c0 m (h M G _ hg h1) hlo hm hm2 hf ha
end
section
variable {L : Lg}
end
section
variable {L : Lg}
end
section
variable {L : Lg}
theorem Valid.toFv {f : FuncId} {args : List V} {ob l l' : OT} {res res' : V} {ks : List (Nat × Option O)} (h : Valid L f args ob res (ob ++ l)) (hf : frz (getO (ob ++ l)) res = some (res', ks)) (hu : upds (ob ++ l) ks = ob ++ l') (hr : Bd ob.length res') : Valid L f args ob res' ob := by
  obtain ⟨h1, h2, h3⟩ := h
  refine ⟨h1, Nat.le_refl _, fun w M G rs I hγ hln hv => (h3 w M G rs I hγ hln hv).mono ?_⟩
  rintro e w' ⟨r, M', G', he, hM, hG, hr', I', fr, free⟩
  have hb : TBd ob.length ob := fun o x hx => by
    have := I.obj o x hx
    cases this with
    | box cs b arr T hg hw hl h => exact mem_idx (fun j c hj => (h j c hj).bd I.dom)
    | row => trivial
    | nil => trivial
    | iter => trivial
    | mp ks vs b es hg hw hk hbn hl h => exact mem_idx (fun j c hj => (h j c hj).bd I.dom)
    | mit m n seen b bm hg hm hw => exact I.dom m _ hm
  have hz : Rt ob.length res (ob ++ l) res' ob := by
    refine Rt.trans (Rt.freeze hf) ?_
    rw [hu]
    exact Rt.mv0 (BaseR.refl hb) rfl (VM.self hr)
  obtain ⟨M2, G2, a1, a2, a3, a4, a5, a6⟩ := hz (FB G ob) w.heap.size w' M' G G' r hG I.dom (fun o ho h => free o ho h) h2 I' hr'
  exact ⟨r, M2, G2, he, hM.trans a1, a2, a6, a5, fr, fun o ho h => a3 o ho h⟩
end
inductive OW : O → O → Prop
  | same (x : O) : OW x x
  | row {k ver : Nat} {es es' : List (List Tr)} (h : EsLe es es') : OW (.row k ver es) (.row k ver es')
theorem Inv.weak {F : Nat → Prop} {n0 : Nat} {w : World} {M : Mem} {G : Gh} {ob ob' : OT} (I : Inv F n0 w M G ob) (hl : ob'.length = ob.length) (h : ∀ o x', getO ob' o = some x' → ∃ x, getO ob o = some x ∧ OW x x') : Inv F n0 w M G ob' := by
  have hblk : ∀ {o x' b}, getO ob' o = some x' → blkO G o x' = some b → ∃ x, getO ob o = some x ∧ blkO G o x = some b := fun {o x' b} hx hb => by
    obtain ⟨x, hy, hR⟩ := h o x' hx
    refine ⟨x, hy, ?_⟩
    cases hR with
    | same => exact hb
    | row => simpa [blkO] using hb
  refine ⟨I.mem, fun o x' hx => ?_, fun o o' x x' b hx hx' hb hb' => ?_, fun o x b hx hb => ?_, fun o x b hx hb => ?_, fun o g hg => hl ▸ I.dom o g hg⟩
  · obtain ⟨x, hy, hR⟩ := h o x' hx
    cases hR with
    | same => exact I.obj o _ hy
    | row he =>
      cases I.obj o _ hy with
      | row k ver es f ri b st arr T hg hv hmax hk hb hw hcap hlen hes hc =>
        refine .row _ _ _ f ri b st arr T hg hv hmax hk hb hw hcap (he.len ▸ hlen) (fun e hm => ?_) (fun i e j t hi hj => ?_)
        · obtain ⟨t, h1, h2⟩ := he.mem hm
          rw [← h2.len]; exact hes t h1
        · obtain ⟨e0, h0, hE⟩ := he.get hi
          obtain ⟨t0, h1, hT⟩ := hE.get hj
          exact hT M _ (hc i e0 j t0 h0 h1)
      | nil k ver f ri hg hv hmax hk hb hcap =>
        have := he.len
        cases he' : (‹List (List Tr)› : List (List Tr)) with
        | nil => exact .nil _ _ f ri hg hv hmax hk hb hcap
        | cons a r => rw [he'] at this; simp at this
  · obtain ⟨y, hy, h1⟩ := hblk hx hb
    obtain ⟨y', hy', h2⟩ := hblk hx' hb'
    exact I.dis o o' y y' b hy hy' h1 h2
  · obtain ⟨y, hy, h1⟩ := hblk hx hb
    exact I.off o y b hy h1
  · obtain ⟨y, hy, h1⟩ := hblk hx hb
    exact I.own o y b hy h1
def obW : OT → OT → Prop
  | [], [] => True
  | x :: l, y :: l' => (y = none ∨ ∃ a b, x = some a ∧ y = some b ∧ OW a b) ∧ obW l l'
  | _, _ => False
theorem obW_len : ∀ {l l' : OT}, obW l l' → l'.length = l.length
  | [], [], _ => rfl
  | _ :: _, _ :: _, h => congrArg (· + 1) (obW_len h.2)
theorem obW_get : ∀ {l l' : OT}, obW l l' → ∀ {i : Nat} {x' : O}, getO l' i = some x' → ∃ x, getO l i = some x ∧ OW x x'
  | [], [], _, i, x', h => by simp [getO] at h
  | x :: l, y :: l', h, 0, x', hx => by
    simp only [getO, List.getElem?_cons_zero, Option.getD_some] at hx ⊢
    subst hx
    rcases h.1 with h1 | ⟨a, b, rfl, hb, h1⟩
    · cases h1
    · cases hb; exact ⟨a, rfl, h1⟩
  | x :: l, y :: l', h, i + 1, x', hx => by
    obtain ⟨z, h1, h2⟩ := obW_get h.2 (i := i) (by simpa [getO] using hx)
    exact ⟨z, by simpa [getO] using h1, h2⟩
theorem To.weak {L : Lg} {m n : Nat} {as : AS} {b l l' : OT} (ho : obW l l') : To L m n as (b ++ l) as (b ++ l') := by
  have hl := obW_len ho
  intro X a w hm ⟨M, G, R⟩
  refine ⟨M, G, ⟨R.m, R.g, R.inv.weak (by simp [hl]) (fun o x' hx => ?_), R.fr, R.glob, R.len, R.slots, R.free, ?_, R.size, R.defers, R.dom0⟩⟩
  · by_cases hb : o < b.length
    · rw [getO_low hb] at hx ⊢
      exact ⟨x', hx, .same x'⟩
    · obtain ⟨q, rfl⟩ := Nat.exists_eq_add_of_le (Nat.le_of_not_lt hb)
      rw [getO_app] at hx ⊢
      exact obW_get ho hx
  · have := R.low
    simp [hl] at this ⊢; exact this
theorem X.weak {L : Lg} {m n : Nat} {as : AS} {b l l' : OT} {c : Code} {Q : KC} (ho : obW l l') (k : X L m n c as (b ++ l') Q) : X L m n c as (b ++ l) Q := X.to (To.weak ho) k
theorem EsLe.refl : ∀ {l : List (List Tr)}, EsLe l l
  | [] => trivial
  | e :: l => ⟨by induction e with | nil => trivial | cons t r ih => exact ⟨TrLe.refl, ih⟩, EsLe.refl⟩
theorem EsLe.app : ∀ {a b c d : List (List Tr)}, EsLe a b → EsLe c d → EsLe (a ++ c) (b ++ d)
  | [], [], _, _, _, h => h
  | _ :: _, _ :: _, _, _, h, k => ⟨h.1, EsLe.app h.2 k⟩
@[go_sem] theorem addA (a m n : Nat) : a + no_index (OfNat.ofNat m) + no_index (OfNat.ofNat n) = a + (OfNat.ofNat m + OfNat.ofNat n) := Nat.add_assoc _ _ _
end Go.Ab
end
section
/- Regions whose order is drawn: two operations that nothing orders (two boxes made side by side): each of the two orders by itself. -/
namespace Go.Ab
open Go

section
variable {L : Lg} {X : Cx} {ops : Array Oper} {pr : List (List Nat)} {eff : Nat → Bool} {es : Nat → E} {vs : Nat → V} {bs : Nat → Bool}

def Rdy (ops : Array Oper) (D : Nat → Bool) (i : Nat) : Prop := ∃ o, ops[i]? = some o ∧ D i = false ∧ ∀ e ∈ o.after.toList, Region.binds .any e = true → D e.on = true

inductive Sch (ops : Array Oper) : (Nat → Bool) → List Nat → Prop where
  | nil {D} (h : ∀ i, ¬ Rdy ops D i) : Sch ops D []
  | cons {D i l} (h : Rdy ops D i) (h2 : Sch ops (addD D i) l) : Sch ops D (i :: l)

theorem mem_ready {listed : Array Bool} {i : Nat} (hsz : listed.size = ops.size) : i ∈ Region.ready .any ops listed ↔ Rdy ops (fun i => listed.getD i false) i := by
  unfold Rdy
  simp only [Region.ready, List.mem_filter, List.mem_range, Bool.and_eq_true, Bool.not_eq_true']
  constructor
  · rintro ⟨hi, h1, h2⟩
    have hl : i < listed.size := by omega
    have ho : ops[i]? = some ops[i] := Array.getElem?_eq_getElem hi
    refine ⟨_, ho, ?_, ?_⟩
    · simp only [Array.getD_eq_getD_getElem?, Array.getElem?_eq_getElem hl, Option.getD_some] at h1 ⊢; exact h1
    · intro e he hb
      rw [ho] at h2
      simp only [Option.map_some, Option.getD_some, Array.all_eq_true] at h2
      obtain ⟨j, hj, rfl⟩ := List.getElem_of_mem he
      have := h2 j (by simpa using hj)
      simp only [Array.getElem_toList] at hb ⊢
      simpa [hb] using this
  · rintro ⟨o, ho, h1, h2⟩
    obtain ⟨hi, rfl⟩ := Array.getElem?_eq_some_iff.1 ho
    have hl : i < listed.size := by omega
    refine ⟨hi, ?_, ?_⟩
    · simp only [Array.getD_eq_getD_getElem?, Array.getElem?_eq_getElem hl, Option.getD_some] at h1 ⊢; exact h1
    · rw [ho]
      simp only [Option.map_some, Option.getD_some, Array.all_eq_true]
      intro j hj
      cases hb : Region.binds .any (ops[i].after[j]) with
      | false => simp
      | true => simpa using h2 _ (by simp) hb

theorem getD_set (listed : Array Bool) {i : Nat} (hl : i < listed.size) : (fun j => (listed.setIfInBounds i true).getD j false) = addD (fun j => listed.getD j false) i := by
  funext j
  simp only [addD]
  by_cases hji : j = i
  · subst hji; simp [Array.getD_eq_getD_getElem?, hl]
  · simp [Array.getD_eq_getD_getElem?, Array.getElem?_setIfInBounds_ne (Ne.symm hji), hji]

theorem Sch.go : ∀ (fuel t : Nat) (listed : Array Bool), listed.size = ops.size → cnt ops.size listed ≤ fuel → Sch ops (fun i => listed.getD i false) (Region.linearise.go .any ops fuel t listed []) := by
  intro fuel
  induction fuel with
  | zero =>
    intro t listed hsz hc
    refine .nil fun i hi => ?_
    have hm := (mem_ready hsz).2 hi
    have h1 : listed.getD i true = false ∧ i < ops.size := by simp [Region.ready] at hm; exact ⟨by simpa [Array.getD_eq_getD_getElem?] using hm.2.1, hm.1⟩
    have h0 : cnt ops.size listed = 0 := by omega
    unfold cnt at h0
    rw [List.countP_eq_zero] at h0
    have := h0 i (List.mem_range.2 h1.2)
    simp [h1.1] at this
  | succ fuel ih =>
    intro t listed hsz hc
    simp only [Region.linearise.go]
    change Sch ops _ (match (Region.ready .any ops listed)[t % (Region.ready .any ops listed).length]? with
      | some i => Region.linearise.go .any ops fuel (t / (Region.ready .any ops listed).length) (listed.setIfInBounds i true) [i]
      | none => [].reverse)
    cases hi : (Region.ready .any ops listed)[t % (Region.ready .any ops listed).length]? with
    | none =>
      have hnil : Region.ready .any ops listed = [] := by
        cases hr : Region.ready .any ops listed with
        | nil => rfl
        | cons x xs =>
          rw [hr] at hi
          have hlt : t % (x :: xs).length < (x :: xs).length := Nat.mod_lt _ (by simp)
          simp at hi
          simp at hlt
          omega
      refine .nil fun i hi => ?_
      have hm := (mem_ready hsz).2 hi
      rw [hnil] at hm
      simp at hm
    | some i =>
      simp only []
      rw [linearise_go_acc, List.reverse_singleton, List.singleton_append]
      have hm := List.mem_of_getElem? hi
      have hr := (mem_ready hsz).1 hm
      have h1 : listed.getD i true = false ∧ i < ops.size := by simp [Region.ready] at hm; exact ⟨by simpa [Array.getD_eq_getD_getElem?] using hm.2.1, hm.1⟩
      have hl : i < listed.size := by omega
      refine .cons hr ?_
      rw [← getD_set listed hl]
      refine ih _ _ (by simp [hsz]) ?_
      have : cnt ops.size (listed.setIfInBounds i true) < cnt ops.size listed := by
        unfold cnt
        refine countP_lt (fun x hx hq => ?_) (List.mem_range.2 h1.2) (by simp [h1.1]) ?_
        · by_cases hxi : x = i
          · subst hxi; simp [h1.1]
          · have : (listed.setIfInBounds i true).getD x true = listed.getD x true := by
              simp [Array.getD_eq_getD_getElem?, Array.getElem?_setIfInBounds_ne (Ne.symm hxi)]
            rw [this] at hq; exact hq
        · simp [Array.getD_eq_getD_getElem?, hl]
      omega

theorem Sch.run (O : Ok L) (T : TrcAll L ops pr eff es vs bs) {K : E → Prop} (hKn : K (es ops.size)) {Q : Exit → Act → World → Prop} (hQ : ∀ E a w, K E → RelE L X E a w → Q .normal a w)
    {D : Nat → Bool} {l : List Nat} (h : Sch ops D l) : ∀ (S : E) (a : Act) (w : World), Dn ops pr eff es vs bs D S → RelE L X S a w → wpOps L.P ops Q l a w := by
  induction h with
  | @nil D hn =>
    intro S a w N R
    have all : ∀ k, k ≤ ops.size → ∀ i, i < k → D i = true := by
      intro k
      induction k with
      | zero => intro _ i hi; omega
      | succ k ih =>
        intro hk i hi
        rcases Nat.lt_or_ge i k with h | h
        · exact ih (by omega) i h
        · have : i = k := by omega
          subst this
          refine Classical.byContradiction fun hf => hn i ?_
          have hin : i < ops.size := by omega
          have hoi : ops[i]? = some ops[i] := Array.getElem?_eq_getElem hin
          refine ⟨_, hoi, by simpa using hf, fun e he hb => ?_⟩
          have hm := ((T.chk i _ hoi).edge e he hb).1
          exact ih (by omega) _ ((T.chk i _ hoi).low _ hm)
    have hS : S.slots = (es ops.size).slots := by
      rw [N.slots, T.slots ops.size (Nat.le_refl _)]
      apply List.ext_getElem?
      intro t
      exact sD_agree _ (fun j hj _ => all ops.size (Nat.le_refl _) j hj)
    have hob : S.ob = (es ops.size).ob := by
      obtain ⟨t, ht, h1, h2⟩ := N.ob
      rw [h1]
      exact T.same ht (Nat.le_refl _) (fun j hj ha => by
        have := (h2 j hj ha).1 (all ops.size (Nat.le_refl _) j hj)
        exact ⟨fun _ => hj, fun _ => this⟩)
    have : S = es ops.size := by cases S; cases hh : es ops.size; rw [hh] at hS hob; simp only at hS hob; rw [hS, hob]
    subst this
    exact hQ _ a w hKn R
  | @cons D i l hr h2 ih =>
    intro S a w N R
    obtain ⟨o, ho, hD, hedge⟩ := hr
    have hpre : ∀ x ∈ pr.getD i [], D x = true := by
      intro x hx
      obtain ⟨e, he, hb, hh⟩ := (T.chk i _ ho).src x hx
      rcases hh with rfl | hh
      · exact hedge e he hb
      · have hm := (T.chk i _ ho).edge e he hb
        have h3 := (T.chk i _ ho).low _ hm.1
        have hi : i < ops.size := (Array.getElem?_eq_some_iff.1 ho).1
        exact N.closed e.on (by omega) (hedge e he hb) x hh
    rw [wpOps_cons]
    exact N.step O T ho hD hpre R (fun S' a' w' N' R' => ih S' a' w' N' R')

structure Rn (π : Nat → Nat) (ops ops2 : Array Oper) : Prop where
  non : ∀ k, ops[k]? = none → ops2[π k]? = none
  one : ∀ k o, ops[k]? = some o → ∃ o2, ops2[π k]? = some o2 ∧ o2.dst = o.dst ∧ o2.op = o.op ∧ o2.type = o.type ∧ o2.pos = o.pos ∧ o2.guard = o.guard.map (fun g => (π g.1, g.2))

theorem Rn.yields {π : Nat → Nat} {ops ops2 : Array Oper} (R : Rn π ops ops2) (tm : Array Value) (k : Nat) : yielded ops2 tm (π k) = yielded ops tm k := by
  unfold yielded
  cases h : ops[k]? with
  | none => rw [R.non k h]
  | some o => obtain ⟨o2, h2, hd, _⟩ := R.one k o h; rw [h2]; simp [hd]

theorem Rn.wp {π : Nat → Nat} {ops ops2 : Array Oper} (R : Rn π ops ops2) {P : Program} {Q : Exit → Act → World → Prop} : ∀ (l : List Nat) (a : Act) (w : World), wpOps P ops2 Q (l.map π) a w → wpOps P ops Q l a w := by
  intro l
  induction l with
  | nil => intro a w h; exact h
  | cons i l ih =>
    intro a w h
    rw [List.map_cons, wpOps_cons] at h
    rw [wpOps_cons]
    unfold wpOp at h ⊢
    cases ho : ops[i]? with
    | none => rw [R.non i ho] at h; exact ih a w h
    | some o =>
      obtain ⟨o2, h2, hd, hop, hty, hpo, hg⟩ := R.one i o ho
      rw [h2] at h
      simp only at h ⊢
      have hw : Region.wanted o2 (yielded ops2 a.tmps) = Region.wanted o (yielded ops a.tmps) := by
        unfold Region.wanted
        rw [hg]
        cases o.guard with
        | none => rfl
        | some g => obtain ⟨j, b⟩ := g; simp only [Option.map_some]; rw [R.yields]
      rw [hw] at h
      obtain ⟨dst, op, type, pos, after, guard⟩ := o
      obtain ⟨dst2, op2, type2, pos2, after2, guard2⟩ := o2
      simp only at hd hop hty hpo
      subst hd hop hty hpo
      split
      · rename_i hc
        rw [if_pos hc] at h
        rcases h with h | h
        · left
          refine Oper.wp_mono (fun a w hh => ih a w hh) ?_
          exact h
        · right; exact h
      · rename_i hc
        rw [if_neg hc] at h
        exact ih _ _ h

def edL (k j : Nat) : Nat → List Oper → List Oper
  | _, [] => []
  | i, o :: r => (if i = k then { o with after := ⟨o.after.toList ++ [⟨j, .phase⟩]⟩ } else o) :: edL k j (i + 1) r
theorem edL_get (k j : Nat) : ∀ (l : List Oper) (i x : Nat), (edL k j i l)[x]? = (l[x]?).map fun o => if i + x = k then { o with after := ⟨o.after.toList ++ [⟨j, .phase⟩]⟩ } else o
  | [], i, x => by simp [edL]
  | o :: r, i, 0 => by simp [edL]
  | o :: r, i, x + 1 => by
    simp only [edL, List.getElem?_cons_succ]
    rw [edL_get k j r (i + 1) x]
    simp only [show i + 1 + x = i + (x + 1) by omega]

def edA (k j : Nat) (ops : Array Oper) : Array Oper := ⟨edL k j 0 ops.toList⟩
theorem edA_get (k j x : Nat) (ops : Array Oper) : (edA k j ops)[x]? = (ops[x]?).map fun o => if x = k then { o with after := ⟨o.after.toList ++ [⟨j, .phase⟩]⟩ } else o := by
  unfold edA
  simp only [List.getElem?_toArray, edL_get, Nat.zero_add, Array.getElem?_toList]

theorem rdy_edA {k j x : Nat} {D : Nat → Bool} : Rdy (edA k j ops) D x ↔ Rdy ops D x ∧ (x = k → D j = true) := by
  unfold Rdy
  constructor
  · rintro ⟨o, ho, hD, he⟩
    rw [edA_get] at ho
    cases h : ops[x]? with
    | none => rw [h] at ho; cases ho
    | some o' =>
      rw [h] at ho
      simp only [Option.map_some, Option.some.injEq] at ho
      by_cases hx : x = k
      · rw [if_pos hx] at ho
        subst ho
        exact ⟨⟨o', rfl, hD, fun e hm hb => he e (by simp; exact .inl (by simpa using hm)) hb⟩, fun _ => he ⟨j, .phase⟩ (by simp) rfl⟩
      · rw [if_neg hx] at ho
        subst ho
        exact ⟨⟨o', rfl, hD, he⟩, fun h => absurd h hx⟩
  · rintro ⟨⟨o, ho, hD, he⟩, hj⟩
    by_cases hx : x = k
    · refine ⟨{ o with after := ⟨o.after.toList ++ [⟨j, .phase⟩]⟩ }, by rw [edA_get, ho]; simp [hx], hD, fun e hm hb => ?_⟩
      simp only [List.mem_append, List.mem_singleton] at hm
      rcases hm with hm | rfl
      · exact he e hm hb
      · exact hj hx
    · exact ⟨o, by simp [edA_get, ho, hx], hD, he⟩

theorem Sch.done {k j : Nat} {D : Nat → Bool} {l : List Nat} (h : Sch ops D l) : D j = true → Sch (edA k j ops) D l := by
  induction h with
  | nil hn => intro _; exact .nil fun i hi => hn i (rdy_edA.1 hi).1
  | @cons D i l hr h2 ih =>
    intro hj
    refine .cons (rdy_edA.2 ⟨hr, fun _ => hj⟩) (ih ?_)
    unfold addD
    split
    · rfl
    · exact hj

theorem Sch.split {i j : Nat} (hij : i ≠ j) {D : Nat → Bool} {l : List Nat} (h : Sch ops D l) : D i = false → D j = false → Sch (edA j i ops) D l ∨ Sch (edA i j ops) D l := by
  induction h with
  | nil hn => intro _ _; exact .inl (.nil fun x hx => hn x (rdy_edA.1 hx).1)
  | @cons D x l hr h2 ih =>
    intro hi hj
    by_cases hxi : x = i
    · subst hxi
      exact .inl (.cons (rdy_edA.2 ⟨hr, fun h => absurd h hij⟩) (h2.done (by simp [addD])))
    · by_cases hxj : x = j
      · subst hxj
        exact .inr (.cons (rdy_edA.2 ⟨hr, fun h => absurd h.symm hij⟩) (h2.done (by simp [addD])))
      · rcases ih (by simp [addD, Ne.symm hxi, hi]) (by simp [addD, Ne.symm hxj, hj]) with h | h
        · exact .inl (.cons (rdy_edA.2 ⟨hr, fun h => absurd h hxj⟩) h)
        · exact .inr (.cons (rdy_edA.2 ⟨hr, fun h => absurd h hxi⟩) h)

def swN (i k : Nat) : Nat := if k = i then i + 1 else if k = i + 1 then i else k
def swO (i : Nat) (o : Oper) : Oper := { o with after := ⟨o.after.toList.map fun e => ⟨swN i e.on, e.ground⟩⟩, guard := o.guard.map fun g => (swN i g.1, g.2) }
def swL {α : Type _} : Nat → List α → List α
  | 0, a :: b :: r => b :: a :: r
  | i + 1, a :: r => a :: swL i r
  | _, l => l
end
end Go.Ab
namespace Go.Ab
open Go Go.Pp
section
variable {L : Lg} {m n : Nat} {as : AS} {ob : OT} {Q : KC}
end
attribute [go_sem] edL swL swO swN
end Go.Ab
end
