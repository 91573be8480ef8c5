/- A machine that carries out the translated code on data, and why it is right, part 3 -/
import Derived.Below
import Derived.Test.YtmceiidhhpcjkaaDoorA2
set_option linter.all false
section
/- The relation between abstract and real states, and what keeps it. -/
namespace Go.Ab
open Go

abbrev Mem := Nat → Option Obj
def Mem.cell (M : Mem) (b off : Nat) : Option Value :=
  match M b with
  | some (.cells c _ _) => c[off]?
  | _ => none

def Mle (M M' : Mem) : Prop := ∀ b x, M b = some x → M' b = some x
theorem Mle.refl (M : Mem) : Mle M M := fun _ _ h => h
theorem Mle.trans {a b c : Mem} (h : Mle a b) (k : Mle b c) : Mle a c := fun i x hx => k i x (h i x hx)
theorem Mle.cell {M M' : Mem} (h : Mle M M') {b off : Nat} {v : Value} (hc : M.cell b off = some v) : M'.cell b off = some v := by
  unfold Mem.cell at *
  cases hM : M b with
  | none => simp [hM] at hc
  | some x => rw [h b x hM]; rw [hM] at hc; exact hc

inductive TR (M : Mem) : Tr → Value → Prop
  | lit (v : Value) (h1 : oneV v = true) : TR M (.lit v) v
  | nil (k : Nat) (full : Bool) (a : Option Addr) (c : Nat) (hc : full = true → c = 0) : TR M (.sl k full []) (.slice a 0 c)
  | sl (k : Nat) (full : Bool) (es : List (List Tr)) (b off c : Nat) (f : Nat → Nat → Value)
      (hc : full = true → c = es.length) (hle : es.length ≤ c) (hk : ∀ e ∈ es, e.length = k)
      (hm : ∀ i e j t, es[i]? = some e → e[j]? = some t → M.cell b (off + i * k + j) = some (f i j))
      (ht : ∀ i e j t, es[i]? = some e → e[j]? = some t → TR M t (f i j)) :
      TR M (.sl k full es) (.slice (some ⟨b, off, none⟩) es.length c)

theorem TR.mono {M M' : Mem} (h : Mle M M') {t : Tr} {v : Value} (r : TR M t v) : TR M' t v := by
  induction r with
  | lit v h1 => exact .lit v h1
  | nil k full a c hc => exact .nil k full a c hc
  | sl k full es b off c f hc hle hk hm ht ih =>
    exact .sl k full es b off c f hc hle hk (fun i e j t he ht' => h.cell (hm i e j t he ht')) (fun i e j t he ht' => ih i e j t he ht')

structure RI where
  blk : Option (Nat × Nat)
  cap : Nat
  k : Nat

inductive GI where
  | box (b : Nat)
  | row (f : Nat → Option RI)
  | iter (b : Nat)

def GI.le : GI → GI → Prop
  | .box b, .box b' => b = b'
  | .row f, .row g => ∀ v r, f v = some r → g v = some r
  | .iter b, .iter b' => b = b'
  | _, _ => False

theorem GI.le_refl : ∀ g : GI, GI.le g g
  | .box _ => rfl
  | .row _ => fun _ _ h => h
  | .iter _ => rfl
theorem GI.le_trans : ∀ {a b c : GI}, GI.le a b → GI.le b c → GI.le a c
  | .box _, .box _, .box _, h, k => Eq.trans h k
  | .row _, .row _, .row _, h, k => fun v r hr => k v r (h v r hr)
  | .iter _, .iter _, .iter _, h, k => Eq.trans h k

abbrev Gh := Nat → Option GI
def Gle (G G' : Gh) : Prop := ∀ o g, G o = some g → ∃ g', G' o = some g' ∧ GI.le g g'
theorem Gle.refl (G : Gh) : Gle G G := fun _ g h => ⟨g, h, GI.le_refl g⟩
theorem Gle.trans {a b c : Gh} (h : Gle a b) (k : Gle b c) : Gle a c := fun o g hg =>
  let ⟨g1, h1, l1⟩ := h o g hg; let ⟨g2, h2, l2⟩ := k o g1 h1; ⟨g2, h2, GI.le_trans l1 l2⟩
theorem Gle.box {G G' : Gh} (h : Gle G G') {o b : Nat} (hg : G o = some (.box b)) : G' o = some (.box b) := by
  obtain ⟨g', h1, h2⟩ := h o _ hg
  cases g' with
  | box b' => rw [h1, show b = b' from h2]
  | row f => exact h2.elim
  | iter f => exact h2.elim
theorem Gle.iter {G G' : Gh} (h : Gle G G') {o b : Nat} (hg : G o = some (.iter b)) : G' o = some (.iter b) := by
  obtain ⟨g', h1, h2⟩ := h o _ hg
  cases g' with
  | box b' => exact h2.elim
  | row f => exact h2.elim
  | iter b' => rw [h1, show b = b' from h2]
theorem Gle.row {G G' : Gh} (h : Gle G G') {o ver : Nat} {f : Nat → Option RI} {ri : RI} (hg : G o = some (.row f)) (hv : f ver = some ri) : ∃ f', G' o = some (.row f') ∧ f' ver = some ri := by
  obtain ⟨g', h1, h2⟩ := h o _ hg
  cases g' with
  | box b' => exact h2.elim
  | row f' => exact ⟨f', h1, h2 _ _ hv⟩
  | iter b' => exact h2.elim

def rowA (ri : RI) (off : Nat) (a : Option Addr) : Prop := ri.cap - off ≠ 0 → ∃ b st, ri.blk = some (b, st) ∧ a = some ⟨b, st + off * ri.k, none⟩

inductive VR (M : Mem) (G : Gh) : V → Value → Prop
  | tr {t : Tr} {v : Value} (h : TR M t v) : VR M G (.tr t) v
  | agg (cs : List V) (vs : Array Value) (hl : cs.length = vs.size) (h : ∀ j c, cs[j]? = some c → VR M G c (vs.getD j undef)) : VR M G (.agg cs) (.agg vs)
  | ref (o off b : Nat) (hg : G o = some (.box b)) : VR M G (.ref o off) (.pointer (some ⟨b, off, none⟩))
  | iter (o off b : Nat) (hg : G o = some (.iter b)) : VR M G (.ref o off) (.pointer (some ⟨b, off, none⟩))
  | row (o ver off len : Nat) (f : Nat → Option RI) (ri : RI) (a : Option Addr) (hg : G o = some (.row f)) (hv : f ver = some ri) (hl : off + len ≤ ri.cap) (ha : rowA ri off a) :
      VR M G (.row o ver off len) (.slice a len (ri.cap - off))
  | sub (k : Nat) (v : V) (lo n : Nat) (full : Bool) (a a' : Option Addr) (n0 c0 m : Nat) (h : VR M G v (.slice a n0 c0)) (hlo : lo + n ≤ n0) (hm : lo + n ≤ m) (hm2 : m ≤ c0) (hf : full = true → m = lo + n) (ha : m ≠ lo → a' = a.map (·.add (lo * k))) :
      VR M G (.sub k v lo n full) (.slice a' n (m - lo))
  | el (k : Nat) (v : V) (i off : Nat) (b o n c : Nat) (h : VR M G v (.slice (some ⟨b, o, none⟩) n c)) (hi : i < n) :
      VR M G (.el k v i off) (.pointer (some ⟨b, o + i * k + off, none⟩))
  | glob (g off : Nat) : VR M G (.glob g off) (.pointer (some ⟨g, off, none⟩))
  | fn (f : FuncId) (as bs : List V) (xs ys : Array Value) (h1 : as.length = xs.size) (h2 : bs.length = ys.size)
      (ha : ∀ j c, as[j]? = some c → VR M G c (xs.getD j undef)) (hb : ∀ j c, bs[j]? = some c → VR M G c (ys.getD j undef)) :
      VR M G (.fn f as bs) (.func (.func f) xs ys)
  | tup (cs : List V) (vs : Array Value) (hl : cs.length = vs.size) (h : ∀ j c, cs[j]? = some c → VR M G c (vs.getD j undef)) : VR M G (.tup cs) (.tuple vs)
  | mp (o b : Nat) (hg : G o = some (.iter b)) : VR M G (.mp o) (.map (some b))
  | junk (v : Value) : VR M G .junk v

theorem VR.mono {M M' : Mem} {G G' : Gh} (hM : Mle M M') (hG : Gle G G') {v : V} {r : Value} (h : VR M G v r) : VR M' G' v r := by
  induction h with
  | tr h => exact .tr (h.mono hM)
  | agg cs vs hl h ih => exact .agg cs vs hl ih
  | ref o off b hg => exact .ref o off b (hG.box hg)
  | iter o off b hg => exact .iter o off b (hG.iter hg)
  | row o ver off len f ri a hg hv hl ha => obtain ⟨f', h1, h2⟩ := hG.row hg hv; exact .row o ver off len f' ri a h1 h2 hl ha
  | sub k v lo n full a a' n0 c0 m h hlo hm hm2 hf ha ih => exact .sub k v lo n full a a' n0 c0 m ih hlo hm hm2 hf ha
  | el k v i off b o n c h hi ih => exact .el k v i off b o n c ih hi
  | glob g off => exact .glob g off
  | fn f as bs xs ys h1 h2 ha hb iha ihb => exact .fn f as bs xs ys h1 h2 iha ihb
  | tup cs vs hl h ih => exact .tup cs vs hl ih
  | mp o b hg => exact .mp o b (hG.iter hg)
  | junk v => exact .junk v

def blkO (G : Gh) (o : Nat) : O → Option Nat
  | .box _ => match G o with | some (.box b) => some b | _ => none
  | .row _ ver _ => match G o with | some (.row f) => (f ver).bind fun ri => ri.blk.map (·.1) | _ => none
  | .iter _ _ => match G o with | some (.iter b) => some b | _ => none
  | .mp _ _ => match G o with | some (.iter b) => some b | _ => none
  | .mit _ _ _ => match G o with | some (.iter b) => some b | _ => none

def RowCells (M : Mem) (arr : Array Value) (st k : Nat) (es : List (List Tr)) : Prop :=
  ∀ i e j t, es[i]? = some e → e[j]? = some t → TR M t (arr.getD (st + i * k + j) undef)

inductive ObR (w : World) (M : Mem) (G : Gh) (o : Nat) : O → Prop
  | box (cs : List V) (b : Nat) (arr : Array Value) (T : TypeId) (hg : G o = some (.box b)) (hw : w.heap[b]? = some (.cells arr T (0, 0)))
      (hl : arr.size = cs.length) (h : ∀ j c, cs[j]? = some c → VR M G c (arr.getD j undef)) : ObR w M G o (.box cs)
  | row (k ver : Nat) (es : List (List Tr)) (f : Nat → Option RI) (ri : RI) (b st : Nat) (arr : Array Value) (T : TypeId) (hg : G o = some (.row f)) (hv : f ver = some ri) (hmax : ∀ v, ver < v → f v = none)
      (hk : ri.k = k) (hb : ri.blk = some (b, st)) (hw : w.heap[b]? = some (.cells arr T (0, 0))) (hcap : st + ri.cap * k ≤ arr.size) (hlen : es.length ≤ ri.cap)
      (he : ∀ e ∈ es, e.length = k) (h : RowCells M arr st k es) : ObR w M G o (.row k ver es)
  | nil (k ver : Nat) (f : Nat → Option RI) (ri : RI) (hg : G o = some (.row f)) (hv : f ver = some ri) (hmax : ∀ v, ver < v → f v = none) (hk : ri.k = k) (hb : ri.blk = none) (hcap : ri.cap = 0) : ObR w M G o (.row k ver [])
  | iter (s : ByteArray) (pos b : Nat) (hg : G o = some (.iter b)) (hw : w.heap[b]? = some (.stringIter s pos)) : ObR w M G o (.iter s pos)
  | mp (ks : List Int) (vs : List V) (b : Nat) (es : Array MapEntry) (hg : G o = some (.iter b)) (hw : w.heap[b]? = some (.map es es.size)) (hk : es.toList.map (·.key) = ks.map (.int .i64)) (hb : es.toList.map (·.born) = List.range es.size)
      (hl : vs.length = es.size) (h : ∀ j c, vs[j]? = some c → VR M G c ((es.map (·.val)).getD j undef)) : ObR w M G o (.mp ks vs)
  | mit (m n : Nat) (seen : List Nat) (b bm : Nat) (hg : G o = some (.iter b)) (hm : G m = some (.iter bm)) (hw : w.heap[b]? = some (.mapIter (some bm) n seen.toArray n)) : ObR w M G o (.mit m n seen)

structure Inv (F : Nat → Prop) (n0 : Nat) (w : World) (M : Mem) (G : Gh) (ob : OT) : Prop where
  mem : ∀ b x, M b = some x → w.heap[b]? = some x
  obj : ∀ o x, getO ob o = some x → ObR w M G o x
  dis : ∀ o o' x x' b, getO ob o = some x → getO ob o' = some x' → blkO G o x = some b → blkO G o' x' = some b → o = o'
  off : ∀ o x b, getO ob o = some x → blkO G o x = some b → M b = none
  own : ∀ o x b, getO ob o = some x → blkO G o x = some b → F b ∨ n0 ≤ b
  dom : ∀ o g, G o = some g → o < ob.length

structure Fr (F : Nat → Prop) (w0 w : World) : Prop where
  os : w.os = w0.os
  tape : w.tape = w0.tape
  output : w.output = w0.output
  size : w0.heap.size ≤ w.heap.size
  block : ∀ b, b < w0.heap.size → ¬ F b → w.heap[b]? = w0.heap[b]?

theorem Fr.refl (F : Nat → Prop) (w : World) : Fr F w w := ⟨rfl, rfl, rfl, Nat.le_refl _, fun _ _ _ => rfl⟩
theorem Fr.trans {F : Nat → Prop} {a b c : World} (h : Fr F a b) (k : Fr F b c) : Fr F a c :=
  ⟨k.os.trans h.os, k.tape.trans h.tape, k.output.trans h.output, Nat.le_trans h.size k.size, fun i hi hF => (k.block i (Nat.lt_of_lt_of_le hi h.size) hF).trans (h.block i hi hF)⟩

structure Ctx where
  w0 : World
  M0 : Mem
  G0 : Gh
  F : Nat → Prop

structure Rel (X : Ctx) (M : Mem) (G : Gh) (E : E) (a : Act) (w : World) : Prop where
  m : Mle X.M0 M
  g : Gle X.G0 G
  inv : Inv X.F X.w0.heap.size w M G E.ob
  fr : Fr X.F X.w0 w
  len : E.slots.length = a.tmps.size
  slot : ∀ t v, E.slots[t]? = some v → VR M G v (a.tmps.getD t undef)

end Go.Ab
end
