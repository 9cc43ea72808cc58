/- The texts Ed, Em, Eo, Ep, Fa, Fb, Fc in one. -/
import Derived.Test.YtmkjejngnahpeaaGreatV12
import Derived.Maps.OwnOps
import Derived.Test.YtmkjejngnahpeaaGreatV11
import Derived.Maps.RangeWalk
import Derived.Maps.OwnSet
import Derived.Laws.IdiomRangeMap
import Derived.Deep.LoopGhost
/- Disk: what a crash leaves. -/
namespace Go.Proofs.YtmkjejngnahpeaaGreat
open Go Go.Maps Go.RowKit
open Go.Proofs (encStr)

def keepP (f : F0) (ps : List Int) : Bool × List Int := if f.there && f.named then (true, ps) else (decide ((nextP 2 ps).1 ≠ 0), (nextP 2 ps).2)
def moreP (f : F0) (ps : List Int) : Nat × List Int := if f.there && decide (f.lasts < f.bytes.length) then nextP (f.bytes.length - f.lasts + 1) ps else (0, ps)
def cutF (f : F0) (k : Nat) : F0 := ⟨f.name, f.bytes.take (f.lasts + k), f.lasts + k, true, true⟩
def crashStep (s : List F0 × List Int) (f : F0) : List F0 × List Int :=
  if (keepP f s.2).1 = false then (s.1, (keepP f s.2).2) else (s.1 ++ [cutF f (moreP f (keepP f s.2).2).1], (moreP f (keepP f s.2).2).2)
def crashTo (l : List F0) (ps : List Int) : List F0 × List Int := l.foldl crashStep ([], ps)
def Dk.crash (d : Dk) (ps : List Int) : Dk := ⟨(crashTo d.files ps).1, [], 0⟩
def PicksOk (ps : List Int) : Prop := ∀ x ∈ ps, 0 ≤ x ∧ x ≤ 9223372036854775807
theorem nextP_ok (of : Nat) {ps : List Int} (h : PicksOk ps) : PicksOk (nextP of ps).2 := by
  cases ps with
  | nil => exact h
  | cons p r => exact fun x hx => h x (List.mem_cons_of_mem _ hx)
theorem keepP_ok (f : F0) {ps : List Int} (h : PicksOk ps) : PicksOk (keepP f ps).2 := by
  unfold keepP
  split
  · exact h
  · exact nextP_ok _ h
theorem moreP_ok (f : F0) {ps : List Int} (h : PicksOk ps) : PicksOk (moreP f ps).2 := by
  unfold moreP
  split
  · exact nextP_ok _ h
  · exact h
theorem nextP_lt (of : Nat) (ps : List Int) (h : 0 < of) : (nextP of ps).1 < of := by
  cases ps with
  | nil => exact h
  | cons p r => exact Nat.mod_lt _ h
theorem moreP_le (f : F0) (ps : List Int) (h : f.lasts ≤ f.bytes.length) : f.lasts + (moreP f ps).1 ≤ f.bytes.length := by
  unfold moreP
  split
  · have := nextP_lt (f.bytes.length - f.lasts + 1) ps (by omega)
    omega
  · simpa using h
theorem crashTo_snoc (l : List F0) (f : F0) (ps : List Int) : crashTo (l ++ [f]) ps = crashStep (crashTo l ps) f := by simp [crashTo]
theorem crashStep_names (s : List F0 × List Int) (f : F0) : ∀ g ∈ (crashStep s f).1, g ∈ s.1 ∨ g.name = f.name := fun g hg => by
  unfold crashStep at hg
  split at hg
  · exact .inl hg
  · rcases List.mem_append.1 hg with h | h
    · exact .inl h
    · simp only [List.mem_singleton] at h
      exact .inr (by rw [h]; rfl)
theorem crashTo_names (ps : List Int) : ∀ (l : List F0) (s : List F0 × List Int) (g : F0), g ∈ (l.foldl crashStep s).1 → g ∈ s.1 ∨ ∃ f ∈ l, g.name = f.name
  | [], s, g, hg => .inl hg
  | f :: r, s, g, hg => by
    rcases crashTo_names ps r (crashStep s f) g hg with h | ⟨f', hf', he⟩
    · rcases crashStep_names s f g h with h | h
      · exact .inl h
      · exact .inr ⟨f, by simp, h⟩
    · exact .inr ⟨f', by simp [hf'], he⟩
theorem DiskIs.lookup1_some {w : World} {S : Nat → Prop} {q mb : Nat} {fv : Value} {L : List Fl} {d : Dk} (h : DiskIs w S q mb fv L d) {x : Fl} (hx : x ∈ L) {nm : ByteArray} (hs : nm.size ≤ maxLen) (hn : x.f.name = nm.data.toList) :
    (Instr.lookup 63 (.map (some mb)) (.string nm) false).run Tryz.prog w = .ok (.pointer (some ⟨x.blk, 0, none⟩)) w := by
  obtain ⟨D, ho, hsz, hd⟩ := h.look
  have hz : (zeroValue 79).run Tryz.prog w = .ok (.pointer none) w := by kernel_rfl
  obtain ⟨v, ps, hrun, hv⟩ := ho.lookup (t := 63) (string_keyed Tryz.underlying9) Tryz.underlying63 hz ptrElem_nil (WideMaps.keyOf_string_mk (P := Tryz.prog) Tryz.underlying9 hs)
  have hm : (x.f.name, x.blk) ∈ L.map fun x => (x.f.name, x.blk) := List.mem_map_of_mem (f := fun x => (x.f.name, x.blk)) hx
  have hg := hd.get _ hm .nil
  rw [← hn] at hv
  rw [hg] at hv
  obtain rfl := ptrElem_inv hv
  exact hrun
/-- both disks, beside the picks -/
structure CrashPre (w3 wr : World) (S : Nat → Prop) (q mb : Nat) (fv : Value) (L : List Fl) (d : Dk) (pb Z : Nat) (fl : List F0) : Prop where
  old : DiskIs wr S q mb fv L d
  only : Only (fun k => k = pb ∨ k = pb + 1) w3 wr
  new : ∃ Lo, DiskIs wr (fun k => (k = pb + 2 ∨ k = pb + 1 ∨ w3.heap.size ≤ k) ∧ k < wr.heap.size) (pb + 2) (pb + 1) (.slice none 0 0) Lo ⟨fl, [], 0⟩
  low : ∀ k, S k → k < Z
  z : Z < pb
  size : pb + 3 ≤ w3.heap.size
theorem CrashPre.pick {w3 wr wx : World} {S : Nat → Prop} {q mb : Nat} {fv : Value} {L : List Fl} {d : Dk} {pb Z : Nat} {fl : List F0} (h : CrashPre w3 wr S q mb fv L d pb Z fl) (ho : Only (fun k => k = pb) wr wx) : CrashPre w3 wx S q mb fv L d pb Z fl where
  old := h.old.only ho (fun k hk he => by
    have h1 := h.low k hk
    have h2 := h.z
    omega)
  only := h.only.trans ho (fun i _ hi => .inl hi)
  new := by
    obtain ⟨Lo, hL⟩ := h.new
    have h1 := h.size
    exact ⟨Lo, (hL.only ho (fun k hk he => by have := hk.1; omega)).wider (fun k hk => ⟨hk.1, Nat.lt_of_lt_of_le hk.2 ho.size⟩) (fun k hk => hk.2)⟩
  low := h.low
  z := h.z
  size := h.size
theorem CrashPre.drew {w3 wr : World} {S : Nat → Prop} {q mb : Nat} {fv : Value} {L : List Fl} {d : Dk} {pb Z : Nat} {fl : List F0} (h : CrashPre w3 wr S q mb fv L d pb Z fl) : CrashPre w3 wr.drew S q mb fv L d pb Z fl := h.pick (only_drew (Only.refl _ _))
/-- a file is put into the new disk -/
theorem CrashPre.add {w3 wr w5 w6 : World} {S : Nat → Prop} {q mb : Nat} {fv : Value} {L : List Fl} {d : Dk} {pb Z : Nat} {fl : List F0} (h : CrashPre w3 wr S q mb fv L d pb Z fl) {g : F0} {v : Value} {D : DataW Unit} {n' : Nat} {Lo : List Fl}
    (hLo : DiskIs wr (fun k => (k = pb + 2 ∨ k = pb + 1 ∨ w3.heap.size ≤ k) ∧ k < wr.heap.size) (pb + 2) (pb + 1) (.slice none 0 0) Lo ⟨fl, [], 0⟩) (hd : Dic D (Lo.map fun x => (x.f.name, x.blk)))
    (hnb : NewBytes wr w5 v g.bytes) (hg : (w5.alloc (.cells #[v, .int .i64 g.lasts, .bool g.there, .bool g.named] 81)).grownBy w6 (some (pb + 1)))
    (hm : w6.ownsMap Tryz.prog 9 ptrElem (pb + 1) n' (D.put (.string g.name) (.lit (.int .i64 w5.heap.size)))) (hl : g.lasts ≤ g.bytes.length) (hsz : g.bytes.length ≤ 16777216) (hnm : nameOk g.name = true) (hlt : ∀ f ∈ fl, f.name < g.name) (hfew : fl.length < 4096) :
    CrashPre w3 w6 S q mb fv L d pb Z (fl ++ [g]) := by
  obtain ⟨hb, hown, hbl⟩ := hnb
  obtain ⟨w5a, hw5a⟩ : ∃ w5a : World, w5a = w5.alloc (.cells #[v, .int .i64 g.lasts, .bool g.there, .bool g.named] 81) := ⟨_, rfl⟩
  rw [← hw5a] at hg
  have hc5 : w5a.heap[w5.heap.size]? = some (.cells #[v, .int .i64 g.lasts, .bool g.there, .bool g.named] 81 (0, 0)) := by rw [hw5a]; exact alloc_cells _ _ _
  have hs5 : w5a.heap.size = w5.heap.size + 1 := by rw [hw5a]; simp
  have ho1 : Only (fun k => k = pb + 1) wr w5 := Only.of_below hbl (Nat.le_refl _) _
  have ho2 : Only (fun k => k = pb + 1) wr w5a := ho1.trans (by rw [hw5a]; exact only_alloc (fun k => k = pb + 1) _ _) (fun _ _ h => h)
  have ho : Only (fun k => k = pb + 1) wr w6 := ho2.trans (Only.of_grown (S := fun k => k = pb + 1) hg (fun k hk => by simp at hk; exact hk.symm)) (fun _ _ h => h)
  have hmb : pb + 1 < wr.heap.size := hLo.low (pb + 1) (hLo.foot (pb + 1) (by simp [diskBlocks]))
  have hsz1 := hbl.size
  have hsz2 := hg.size
  have hfl : Lo.map (·.f) = fl := hLo.files
  have hkeep : ∀ k, k < w5a.heap.size → k ≠ pb + 1 → w6.heap[k]? = w5a.heap[k]? := fun k h1 h2 => hg.block k h1 (by simp; omega)
  have hrow : rowAt w6 5 1 v g.bytes.length (byteCells g.bytes) := by
    have h1 : rowAt w5a 5 1 v g.bytes.length (byteCells g.bytes) := hb.kept (fun k hk => by rw [hw5a]; exact Below.heap_alloc _ _ k (hb.lt k hk))
    exact h1.kept (fun k hk => hkeep k (h1.lt k hk) (by have := hown k hk; omega))
  have h6 := DiskIs.file_add (A := Lo) (B := []) (x' := ⟨g, w5.heap.size, v⟩) (fs := fl ++ [g]) (by simpa using hLo) ho
    ⟨(hkeep w5.heap.size (by omega) (by omega)).trans hc5, hrow, hl, hsz⟩ hm
    (hd.put g.name w5.heap.size (fun f => by
      simp only [List.map_append, List.map_cons, List.map_nil, List.mem_append, List.mem_cons, List.not_mem_nil, or_false]
      exact or_comm) (fun f hf => by
      obtain ⟨y, hy, rfl⟩ := List.mem_map.1 hf
      have h1 := hlt y.f (by rw [← hfl]; exact List.mem_map_of_mem hy)
      exact fun he => by
        have he' : y.f.name = g.name := he
        rw [he'] at h1
        exact List.lt_irrefl _ h1))
    (fun k hk => by
      simp only [Fl.blocks, List.mem_cons, Option.mem_toList] at hk
      rcases hk with rfl | hk
      · show wr.heap.size ≤ w5.heap.size ∧ w5.heap.size < w6.heap.size
        exact ⟨hsz1, by omega⟩
      · have h1 := hown k hk
        have h2 := hb.lt k hk
        exact ⟨h1, by omega⟩)
    (by
      cases hv : v.ownBlock with
      | none => simp [Fl.blocks, hv]
      | some k =>
        have h2 := hb.lt k hv
        simp [Fl.blocks, hv]
        omega)
    (by simp [hfl]) (by
      rw [List.map_append, List.pairwise_append]
      refine ⟨hLo.sorted, by simp, fun a ha b hb' => ?_⟩
      obtain ⟨y, hy, rfl⟩ := List.mem_map.1 ha
      simp only [List.map_cons, List.map_nil, List.mem_singleton] at hb'
      rw [hb']
      exact hlt y hy) hnm hfew
  have h1 := h.size
  exact {
    old := h.old.only ho (fun k hk he => by
      have h1 := h.low k hk
      have h2 := h.z
      omega)
    only := h.only.trans ho (fun i _ hi => .inr hi)
    new := ⟨_, h6.wider (fun k hk => by
      have h3 := h.only.size
      rcases hk with hk | hk
      · exact ⟨hk.1, Nat.lt_of_lt_of_le hk.2 ho.size⟩
      · exact ⟨by omega, hk.2⟩) (fun k hk => hk.2)⟩
    low := h.low
    z := h.z
    size := h.size }
theorem take_files {L : List Fl} {d : Dk} {j : Nat} (hf : L.map (·.f) = d.files) (hj : j < L.length) : d.files.take (j + 1) = d.files.take j ++ [L[j].f] := by
  rw [← hf, List.take_succ_eq_append_getElem (by simpa using hj)]
  simp
theorem keep_eq (P : List Int) : ((((nextP 2 P).1 : Nat) : Int) == 0) = !(decide ((nextP 2 P).1 ≠ 0)) := by
  by_cases h : (nextP 2 P).1 = 0 <;> simp [h]
theorem add_only {wr w5 w6 : World} {b : Nat} {v : Value} {l : List UInt8} {o : Obj} (hnb : NewBytes wr w5 v l) (hg : (w5.alloc o).grownBy w6 (some b)) : Only (fun k => k = b) wr w6 :=
  ((Only.of_below hnb.2.2 (Nat.le_refl _) _).trans (only_alloc (fun k => k = b) w5 o) (fun _ _ h => h)).trans (Only.of_grown (S := fun k => k = b) hg (fun k hk => by simp at hk; exact hk.symm)) (fun _ _ h => h)
theorem crashTo_length (ps : List Int) : ∀ (l : List F0) (s : List F0 × List Int), (l.foldl crashStep s).1.length ≤ s.1.length + l.length
  | [], s => by simp
  | f :: r, s => by
    have h1 := crashTo_length ps r (crashStep s f)
    have h2 : (crashStep s f).1.length ≤ s.1.length + 1 := by
      unfold crashStep
      split
      · simp
      · simp
    simp only [List.foldl_cons, List.length_cons]
    omega
theorem crash_lt {d : Dk} {j : Nat} {f : F0} {ps : List Int} (hs : (d.files.map (·.name)).Pairwise (· < ·)) (ht : d.files.take (j + 1) = d.files.take j ++ [f]) : ∀ g ∈ (crashTo (d.files.take j) ps).1, g.name < f.name := fun g hg => by
  rcases crashTo_names ps _ _ g hg with h | ⟨f', hf', he⟩
  · cases h
  · have h1 : ((d.files.take (j + 1)).map (·.name)).Pairwise (· < ·) := hs.sublist ((List.take_sublist _ _).map _)
    rw [ht, List.map_append, List.pairwise_append] at h1
    rw [he]
    exact h1.2.2 _ (List.mem_map_of_mem hf') _ (by simp)
theorem run_take (oa : Option Addr) (N c E : Nat) (h2 : E ≤ c) (h0 : oa.map (fun x => x.add 0) = oa) (W : World) : (Instr.slice 58 (.slice oa N c) none (some (.int .i64 (E : Int))) none).run Tryz.prog W = .ok (.slice oa E c) W := by
  have hs : (sizeOf 5).run Tryz.prog W = .ok 1 W := by kernel_rfl
  have he : Tryz.prog.elem 58 = 5 := by kernel_rfl
  rw [run_slice_h (P := Tryz.prog) (w := W) 58 oa N c (by rw [he]; exact Tryz.underlying58) .i64 E (by omega) (by omega), he, hs]
  simp [Result.andThen, sliced, h0]
theorem step_update {H : Type} {P : Program} (w : World) {ops : Array Oper} {o : Oper} {a : Act} {K : Act → World → Prop} {Q : Exit → Act → World → Prop} {E : Prop}
    (hg : o.guard = none) (m x v : Operand) (t : TypeId) (hop : o.op = Op.mapUpdate t m x v)
    (k e : TypeId) (K0 : Keyed P k) (ht : P.underlying t = some (.map k e)) (R : Value → Option (DataW H × List MemPlace)) (b n : Nat) (D : DataW H)
    (hm : a.eval m = .map (some b)) (hown : w.ownsMap P k R b n D) (hn : n < maxLen) (key val : Value) (kl : Lit) (hx : a.eval x = key) (hv : a.eval v = val) (hkey : keyOf P k key = some kl)
    (d : DataW H) (ps : List MemPlace) (hval : R val = some (d, ps))
    (hK : ∀ w', w'.ownsMap P k R b (n + 1) (D.put kl d) → w.grownBy w' (some b) → K (a.put o.dst undef) w') :
    if Region.wanted o (yielded ops a.tmps) = true then Oper.wp P o a w K Q else E := by
  have hw : Region.wanted o (yielded ops a.tmps) = true := by simp [Region.wanted, hg]
  rw [if_pos hw]
  obtain ⟨w', hrun, r1, r2⟩ := hown.update K0 ht hn hkey hval
  unfold Oper.wp
  simp [execOp, hop, hm, hx, hv, hrun, Result.andThen]
  exact hK w' r1 r2
/-- what stands at the head of each round -/
structure CrashInv (w3 wr : World) (S : Nat → Prop) (q mb : Nat) (fv : Value) (L : List Fl) (d : Dk) (pb Z j : Nat) (ps : List Int) : Prop where
  pre : CrashPre w3 wr S q mb fv L d pb Z (crashTo (d.files.take j) ps).1
  picks : PicksAt wr pb Z (crashTo (d.files.take j) ps).2
  ok : PicksOk (crashTo (d.files.take j) ps).2
def CrashIs (w : World) (d : Dk) (ps : List Int) (e : Ending) (w' : World) : Prop :=
  (¬ AllGe ps ∧ e = .returned (.tuple #[.pointer none, .int .i64 2]) ∧ Below w.heap.size w w') ∨
  (AllGe ps ∧ ∃ q, e = .returned (.tuple #[.pointer (some ⟨q, 0, none⟩), .int .i64 0]) ∧ DiskAt w' (fun k => w.heap.size ≤ k ∧ k < w'.heap.size) q (d.crash ps) ∧ Below w.heap.size w w')
end Go.Proofs.YtmkjejngnahpeaaGreat
/- Disk: Cut. -/
namespace Go.Proofs.YtmkjejngnahpeaaGreat
open Go Go.Maps Go.RowKit

def Dk.cut (d : Dk) (s : List UInt8) (n : Int) : Int × Dk :=
  if nameOk s = false then (2, d)
  else match d.find s with
    | none => (171, d)
    | some f => if n < 0 ∨ (f.bytes.length : Int) < n then (4, d)
      else if d.fate.1 ≠ 0 then (d.fate.1, d.next)
      else (0, d.next.turn s fun f => { f with bytes := f.bytes.take n.toNat, lasts := min f.lasts n.toNat })
theorem run_both (oa : Option Addr) (N c E : Nat) (h2 : E ≤ c) (h0 : oa.map (fun x => x.add 0) = oa) (W : World) : (Instr.slice 58 (.slice oa N c) none (some (.int .i64 (E : Int))) (some (.int .i64 (E : Int)))).run Tryz.prog W = .ok (.slice oa E E) W := by
  have hs : (sizeOf 5).run Tryz.prog W = .ok 1 W := by kernel_rfl
  have he : Tryz.prog.elem 58 = 5 := by kernel_rfl
  rw [run_slice_hm (P := Tryz.prog) (w := W) 58 oa N c (by rw [he]; exact Tryz.underlying58) .i64 .i64 E E (by omega) (by omega) (by omega), he, hs]
  simp [Result.andThen, sliced, h0]
theorem rowAt.cap {w : World} {e : TypeId} {size : Nat} {oa : Option Addr} {n cap : Nat} {xs : List Value} (h : rowAt w e size (.slice oa n cap) n xs) (k : Nat) (hk : k ≤ n) : rowAt w e size (.slice oa k k) k (xs.take (k * size)) := by
  obtain ⟨hm, hc⟩ := h.map0
  have h1 := h.sub 0 k k (Nat.zero_le _) hk (Nat.le_refl _) (Nat.le_trans hk hc)
  simp only [Nat.zero_mul, List.drop_zero, Nat.sub_zero] at h1
  rw [hm] at h1
  simpa using h1
/-- a file is cut -/
theorem set_cut {w w2 : World} {S : Nat → Prop} {q mb : Nat} {fv' : Value} {A B : List Fl} {x : Fl} {d1 : Dk} (ho : Only (fun k => k = q) w w2) (h2 : DiskIs w2 S q mb fv' (A ++ x :: B) d1) {oa : Option Addr} {c k : Nat} (hbv : x.bv = .slice oa x.f.bytes.length c) (hk : k ≤ x.f.bytes.length) {v : Int} (hv : v = ((min x.f.lasts k : Nat) : Int))
    {s : List UInt8} {t : F0 → F0} (hs : x.f.name = s) (ht : t x.f = { x.f with bytes := x.f.bytes.take k, lasts := min x.f.lasts k }) (n : Int) :
    OpIs w S q (n, d1.turn s t) (.returned (.int .i64 n)) ((w2.setCell ⟨x.blk, 0, none⟩ (.slice oa k k)).setCell ⟨x.blk, 1, none⟩ (.int .i64 v)) := by
  subst hv
  have hx := h2.each x (by simp)
  have hset : Only (fun k => k = x.blk) w2 ((w2.setCell ⟨x.blk, 0, none⟩ (.slice oa k k)).setCell ⟨x.blk, 1, none⟩ (.int .i64 ((min x.f.lasts k : Nat) : Int))) :=
    (only_setCell (fun k => k = x.blk) w2 x.blk 0 _ rfl).trans (only_setCell (fun k => k = x.blk) _ x.blk 1 _ rfl) (fun _ _ h => h)
  have hown : (Value.slice oa k k).ownBlock = x.bv.ownBlock := by
    rw [hbv]
    cases oa with
    | none => rfl
    | some a => rfl
  have hrow := hx.row
  rw [hbv] at hrow
  have hr2 := hrow.cap k hk
  rw [Nat.mul_one, byteCells_take] at hr2
  have hlen : (x.f.bytes.take k).length = k := by rw [List.length_take]; omega
  refine file_done (x' := ⟨{ x.f with bytes := x.f.bytes.take k, lasts := min x.f.lasts k }, x.blk, .slice oa k k⟩) ho h2 (hset.mono (fun i _ hi => by rw [hi]; simp [Fl.blocks])) rfl rfl ⟨?_, ?_, ?_, ?_⟩ (fun i hi => .inl (by rw [← hown]; exact hi)) hs ht.symm n
  · exact heap_setCell_here _ (heap_setCell_here (w := w2) _ hx.cells)
  · show rowAt _ _ 1 _ (x.f.bytes.take k).length (byteCells (x.f.bytes.take k))
    rw [hlen]
    exact hr2.kept (fun i hi => hset.block i (hr2.lt i hi) (FlAt.own_ne h2 i (by rw [← hown]; exact hi)))
  · show min x.f.lasts k ≤ (x.f.bytes.take k).length
    omega
  · show (x.f.bytes.take k).length ≤ 16777216
    have := hx.size
    omega
set_option maxRecDepth 100000 in
set_option maxHeartbeats 1000000 in
theorem cut_b {w : World} {S : Nat → Prop} {q : Nat} {d : Dk} (h : DiskAt w S q d) (nm : ByteArray) (hs : nm.size ≤ maxLen) (n : Int) :
    Calls Tryz.prog 42 #[.pointer (some ⟨q, 0, none⟩), .string nm, .int .i64 n] w fun e w' => OpIs w S q (d.cut nm.data.toList n) e w' := by
  obtain ⟨mb, fv, L, h⟩ := h
  go_enter Tryz.func42, Tryz.ntmps42
  go_wp2_with fail
  refine (find_b h nm hs).mono ?_
  rintro e w' ⟨hF, rfl⟩
  rcases hF with ⟨hn, rfl⟩ | ⟨hn, hf, rfl⟩ | ⟨hn, A, x, B, rfl, hxn, hxt, hf, rfl⟩
  · have HO : Hid (OpIs w' S q (d.cut nm.data.toList n) (.returned (.int .i64 2)) w') := Lib.hid (by
      rw [show d.cut nm.data.toList n = (2, d) by simp [Dk.cut, hn]]
      exact OpIs.same h 2)
    clear h hn
    go_wp2_with fail
    go_ret
    exact HO.out
  · have HO : Hid (OpIs w' S q (d.cut nm.data.toList n) (.returned (.int .i64 171)) w') := Lib.hid (by
      rw [show d.cut nm.data.toList n = (171, d) by simp [Dk.cut, hn, hf]]
      exact OpIs.same h 171)
    clear h hn hf
    go_wp2_with fail
    go_ret
    exact HO.out
  · have hx0 := h.each x (by simp)
    obtain ⟨oaf, cf, hbv, hnc⟩ := hx0.row.shape
    obtain ⟨N, hnn⟩ : ∃ N, x.f.bytes.length = N := ⟨_, rfl⟩
    obtain ⟨l, hll⟩ : ∃ l, x.f.lasts = l := ⟨_, rfl⟩
    have hxc := hx0.cells
    rw [hbv, hnn] at hxc
    have k0 : w'.cell? ⟨x.blk, 0, none⟩ = some (.slice oaf N cf) := cell_of hxc rfl
    have HBV := Lib.hid (And.intro hbv (And.intro hnn hll))
    have H := Lib.hid h
    have HN := Lib.hid (And.intro hn hf)
    clear h hn hf hxc hx0 hbv hnn hnc hll
    by_cases hbad : n < 0 ∨ (N : Int) < n
    · have HO : Hid (OpIs w' S q (d.cut nm.data.toList n) (.returned (.int .i64 4)) w') := Lib.hid (by
        rw [show d.cut nm.data.toList n = (4, d) by simp [Dk.cut, HN.out.1, HN.out.2, HBV.out.2.1, hbad]]
        exact OpIs.same H.out 4)
      by_cases e1 : n < 0
      · go_wp2_with fail
        go_ret
        exact HO.out
      · have e2 : (N : Int) < n := by omega
        go_wp2_with fail
        go_ret
        exact HO.out
    · obtain ⟨ν, rfl⟩ : ∃ ν : Nat, n = (ν : Int) := ⟨n.toNat, by omega⟩
      have hνN : ν ≤ N := by omega
      have d1 : decide ((ν : Int) < 0) = false := by simp
      have d2 : decide ((N : Int) < (ν : Int)) = false := by simp; omega
      go_wp2_with fail
      refine (step_b H.out).mono ?_
      rintro e w1 ⟨kd, kp, fv', rfl, hkp, h1, ho1⟩
      obtain ⟨er, her⟩ : ∃ er, d.fate.1 = er := ⟨_, rfl⟩
      rw [her]
      have H1 := Lib.hid h1
      have HO1 := Lib.hid ho1
      have HE := Lib.hid her
      clear h1 ho1 hkp her k0 d1 d2
      go_upto_region 7 with fail
      obtain ⟨w2, hw2⟩ : ∃ w2 : World, w2 = w1.alloc (.cells #[.int .i64 kd, .int .i64 kp] 67) := ⟨_, rfl⟩
      obtain ⟨r, hr⟩ : ∃ r, r = w1.heap.size := ⟨_, rfl⟩
      have h2 : DiskIs w2 S q mb fv' (A ++ x :: B) d.next := by rw [hw2]; exact H1.out.below ((Below.refl _ _).alloc (Nat.le_refl _) _)
      have ho2 : Only (fun k => k = q) w' w2 := by rw [hw2]; exact HO1.out.trans (only_alloc (fun k => k = q) _ _) (fun _ _ h => h)
      rw [← hw2, ← hr]
      clear hw2 hr H1 HO1
      by_cases h0 : er = 0
      · subst h0
        have hx := h2.each x (by simp)
        have hxc := hx.cells
        have hxr := hx.row
        rw [HBV.out.1, HBV.out.2.1, HBV.out.2.2] at hxc
        rw [HBV.out.1, HBV.out.2.1] at hxr
        obtain ⟨hm0, hNc⟩ := hxr.map0
        have hsl : ∀ W : World, (Instr.slice 58 (.slice oaf N cf) none (some (.int .i64 (ν : Int))) (some (.int .i64 (ν : Int)))).run Tryz.prog W = .ok (.slice oaf ν ν) W := fun W => run_both oaf N cf ν (by omega) hm0 W
        have k0 : w2.cell? ⟨x.blk, 0, none⟩ = some (.slice oaf N cf) := cell_of hxc rfl
        have z0 : w2.frozen? ⟨x.blk, 0, none⟩ = false := free_of hxc _
        have hc3 := heap_setCell_here (i := 0) (.slice oaf ν ν) hxc
        have k1 : (w2.setCell ⟨x.blk, 0, none⟩ (.slice oaf ν ν)).cell? ⟨x.blk, 1, none⟩ = some (.int .i64 l) := cell_of hc3 rfl
        have z1 : (w2.setCell ⟨x.blk, 0, none⟩ (.slice oaf ν ν)).frozen? ⟨x.blk, 1, none⟩ = false := free_of hc3 _
        have HO : Hid (∀ v : Int, v = ((min l ν : Nat) : Int) → OpIs w' S q (d.cut nm.data.toList ν) (.returned (.int .i64 0)) ((w2.setCell ⟨x.blk, 0, none⟩ (.slice oaf ν ν)).setCell ⟨x.blk, 1, none⟩ (.int .i64 v))) := Lib.hid (fun v hv => by
          have h3 := set_cut ho2 h2 (oa := oaf) (c := cf) (k := ν) HBV.out.1 (by rw [HBV.out.2.1]; exact hνN) (v := v) (by rw [HBV.out.2.2]; exact hv) (s := nm.data.toList) (t := fun f => { f with bytes := f.bytes.take ν, lasts := min f.lasts ν }) hxn rfl 0
          have hb' : ¬ ((ν : Int) < 0 ∨ (N : Int) < (ν : Int)) := hbad
          have e : d.cut nm.data.toList ν = (0, d.next.turn nm.data.toList fun f => { f with bytes := f.bytes.take ν, lasts := min f.lasts ν }) := by
            unfold Dk.cut
            rw [HN.out.1, HN.out.2]
            simp only [HBV.out.2.1, HE.out]
            rw [if_neg (by simp), if_neg hb', if_neg (by simp)]
            rfl
          rw [e]
          exact h3)
        clear h2 ho2 hx hxc hxr hm0 hc3
        go_wp2_with fail
        all_goals (go_ret; refine HO.out _ ?_; omega)
      · have hb0 : (er != 0) = true := by simpa using h0
        have HO : Hid (OpIs w' S q (d.cut nm.data.toList ν) (.returned (.int .i64 er)) w2) := Lib.hid (by
          rw [show d.cut nm.data.toList ν = (er, d.next) by
            unfold Dk.cut
            rw [HN.out.1, HN.out.2]
            simp only [HBV.out.2.1, HE.out]
            rw [if_neg (by simp), if_neg hbad, if_pos h0]]
          exact OpIs.next ho2 h2 er)
        clear h0 h2 ho2
        go_wp2_with fail
        go_ret
        exact HO.out
end Go.Proofs.YtmkjejngnahpeaaGreat
/- Disk: Remove. -/
namespace Go.Proofs.YtmkjejngnahpeaaGreat
open Go Go.Maps Go.RowKit

section
variable {w : World} {S : Nat → Prop} {q mb : Nat} {fv : Value} {d : Dk}
/-- a file is struck -/
theorem DiskIs.file_drop {w' : World} {A B : List Fl} {x : Fl} {n' : Nat} {D' : DataW Unit} {fs : List F0} (h : DiskIs w S q mb fv (A ++ x :: B) d) (ho : Only (fun k => k = mb) w w')
    (hm : w'.ownsMap Tryz.prog 9 ptrElem mb n' D') (hd : Dic D' ((A ++ B).map fun x => (x.f.name, x.blk))) (hfs : fs = A.map (·.f) ++ B.map (·.f)) : DiskIs w' S q mb fv (A ++ B) { d with files := fs } := by
  have hp := blocks_perm q mb fv A x B
  have hnd := (List.nodup_append.1 (hp.nodup_iff.1 h.apart)).2.1
  have hin : ∀ k ∈ diskBlocks q mb fv (A ++ B), S k := fun k hk => h.foot k (hp.mem_iff.2 (List.mem_append_right _ hk))
  have hne : ∀ k ∈ diskBlocks q mb fv (A ++ B), k ≠ mb → w'.heap[k]? = w.heap[k]? := fun k hk hk' => ho.block k (h.low k (hin k hk)) hk'
  have hap := hnd
  simp only [diskBlocks, List.nodup_cons, List.mem_cons, not_or] at hap
  have hmb : ∀ k, k ∈ fv.ownBlock.toList ++ (A ++ B).flatMap Fl.blocks → k ≠ mb := fun k hk e => hap.2.1 (e ▸ hk)
  have hfl : d.files = A.map (·.f) ++ x.f :: B.map (·.f) := by rw [← h.files]; simp
  have hsub : fs.Sublist d.files := by
    rw [hfs, hfl]
    exact List.Sublist.append_left (List.sublist_cons_self _ _) _
  have hs2 : (fs.map (·.name)).Pairwise (· < ·) := h.sorted.sublist (hsub.map _)
  exact {
    files := by rw [hfs]; simp
    head := (hne q (by simp [diskBlocks]) (fun e => hap.1.1 e)).trans h.head
    fates := h.fates.kept (fun k hk => hne k (by simp [diskBlocks, hk]) (hmb k (by simp [hk])))
    map := by
      refine ⟨D', ?_, hd⟩
      have h1 := ownsMap_tight hm
      rw [hd.size hm (by
        rw [List.map_map]
        have : ((A ++ B).map (·.f.name)).Pairwise (· < ·) := by rw [hfs] at hs2; simpa [Function.comp_def] using hs2
        exact this.imp (fun {a b} hab he => by rw [he] at hab; exact List.lt_irrefl _ hab))] at h1
      simpa using h1
    each := fun y hy => (h.each y (by
      rcases List.mem_append.1 hy with h1 | h1
      · simp [h1]
      · simp [h1])).kept (fun k hk => by
        have h1 : k ∈ fv.ownBlock.toList ++ (A ++ B).flatMap Fl.blocks := List.mem_append_right _ (List.mem_flatMap.2 ⟨y, hy, hk⟩)
        exact hne k (by simp only [diskBlocks, List.mem_cons]; exact .inr (.inr h1)) (hmb k h1))
    apart := hnd
    foot := hin
    low := fun k hk => Nat.lt_of_lt_of_le (h.low k hk) ho.size
    sorted := hs2
    names := fun f hf => h.names f (hsub.subset hf)
    few := Nat.le_trans hsub.length_le h.few }
end
def Dk.remove (d : Dk) (s : List UInt8) : Int × Dk :=
  if nameOk s = false then (2, d)
  else match d.find s with
    | none => (171, d)
    | some f => if d.fate.1 ≠ 0 then (d.fate.1, d.next)
      else if f.named = true then (0, d.next.turn s fun f => { f with bytes := f.bytes.take f.lasts, there := false })
      else (0, { d.next with files := d.files.filter fun f => f.name != s })
end Go.Proofs.YtmkjejngnahpeaaGreat
/- Disk: Remove, the call. -/
namespace Go.Proofs.YtmkjejngnahpeaaGreat
open Go Go.Maps Go.RowKit

theorem filter_list {A B : List Fl} {x : Fl} {d : Dk} {s : List UInt8} (hf : (A ++ x :: B).map (·.f) = d.files) (hs : (d.files.map (·.name)).Pairwise (· < ·)) (hx : x.f.name = s) :
    (d.files.filter fun f => f.name != s) = A.map (·.f) ++ B.map (·.f) ∧ (∀ y ∈ A ++ B, y.f.name ≠ s) := by
  have hnd : (d.files.map (·.name)).Nodup := hs.imp (fun {a b} hab he => by rw [he] at hab; exact List.lt_irrefl _ hab)
  rw [← hf, List.map_append, List.map_cons, List.map_append, List.map_cons] at hnd
  have h2 := List.nodup_append.1 hnd
  have hA : ∀ y ∈ A, y.f.name ≠ s := fun y hy he => h2.2.2 y.f.name (List.mem_map_of_mem (List.mem_map_of_mem hy)) x.f.name (by simp) (by rw [he, hx])
  have hB : ∀ y ∈ B, y.f.name ≠ s := fun y hy he => (List.nodup_cons.1 h2.2.1).1 (by rw [hx, ← he]; exact List.mem_map_of_mem (List.mem_map_of_mem hy))
  refine ⟨?_, fun y hy => ?_⟩
  · rw [← hf, List.map_append, List.map_cons, List.filter_append, List.filter_cons]
    have hxs : (x.f.name != s) = false := by simp [hx]
    rw [hxs]
    have e1 : (A.map (·.f)).filter (fun f => f.name != s) = A.map (·.f) := List.filter_eq_self.2 (fun f hf' => by
      obtain ⟨y, hy, rfl⟩ := List.mem_map.1 hf'
      simpa using hA y hy)
    have e2 : (B.map (·.f)).filter (fun f => f.name != s) = B.map (·.f) := List.filter_eq_self.2 (fun f hf' => by
      obtain ⟨y, hy, rfl⟩ := List.mem_map.1 hf'
      simpa using hB y hy)
    rw [e1, e2]
    rfl
  · rcases List.mem_append.1 hy with h | h
    · exact hA y h
    · exact hB y h
/-- a file is struck from the map -/
theorem set_drop {w w2 w3 : World} {S : Nat → Prop} {q mb n' : Nat} {fv' : Value} {A B : List Fl} {x : Fl} {d d1 : Dk} {D : DataW Unit} {s : List UInt8} (ho : Only (fun k => k = q) w w2) (h2 : DiskIs w2 S q mb fv' (A ++ x :: B) d1) (hd : Dic D ((A ++ x :: B).map fun x => (x.f.name, x.blk)))
    (ht : w2.mapTurned w3 mb) (hm : w3.ownsMap Tryz.prog 9 ptrElem mb n' (D.del (.string s))) (hx : x.f.name = s) (hf : d.files = d1.files) :
    OpIs w S q (0, { d1 with files := d.files.filter fun f => f.name != s }) (.returned (.int .i64 0)) w3 := by
  obtain ⟨e1, e2⟩ := filter_list h2.files h2.sorted hx
  rw [hf, e1]
  have ho3 : Only (fun k => k = mb) w2 w3 := Only.of_grown (S := fun k => k = mb) ht.grown (fun k hk => by simp at hk; exact hk.symm)
  have hd2 : Dic (D.del (.string s)) ((A ++ B).map fun x => (x.f.name, x.blk)) := hd.del s (fun f => by
    constructor
    · intro h
      obtain ⟨y, hy, rfl⟩ := List.mem_map.1 h
      refine ⟨List.mem_map.2 ⟨y, ?_, rfl⟩, e2 y hy⟩
      rcases List.mem_append.1 hy with h1 | h1
      · simp [h1]
      · simp [h1]
    · rintro ⟨h, hne⟩
      obtain ⟨y, hy, rfl⟩ := List.mem_map.1 h
      refine List.mem_map.2 ⟨y, ?_, rfl⟩
      rcases List.mem_append.1 hy with h1 | h1
      · simp [h1]
      · rcases List.mem_cons.1 h1 with rfl | h1
        · exact absurd hx hne
        · simp [h1])
  have h4 := h2.file_drop ho3 hm hd2 rfl
  refine ⟨rfl, ⟨mb, fv', _, h4.wider (fun k hk => .inl hk) (fun k hk => ?_)⟩, ?_⟩
  · rcases hk with hk | hk
    · exact Nat.lt_of_lt_of_le (h2.low k hk) ho3.size
    · exact hk.2
  · exact (ho.mono (fun i _ hi => by rw [hi]; exact h2.q_mem)).trans ho3 (fun i _ hi => by rw [hi]; exact h2.foot _ (by simp [diskBlocks]))
end Go.Proofs.YtmkjejngnahpeaaGreat
/- Disk: entries that come out of the map; a part of the files. -/
namespace Go.Proofs.YtmkjejngnahpeaaGreat
open Go Go.Maps Go.RowKit
open Go.Proofs (encStr)

theorem Dic.came {D : DataW Unit} {L : List (List UInt8 × Nat)} (h : Dic D L) {x : List UInt8} {yd : DataW Unit} (hat : ∀ zd, D.atKey (.string x) zd = yd) : ∃ b, (x, b) ∈ L ∧ yd = .lit (.int .i64 b) := by
  cases hh : Maps.has D (.string x) with
  | true =>
    obtain ⟨f, hf, he⟩ := (h.has x).1 hh
    obtain ⟨s, b⟩ := f
    simp only at he
    subst he
    exact ⟨b, hf, by rw [← hat .nil]; exact h.get _ hf _⟩
  | false =>
    have h1 := hat .nil
    have h2 := hat (.lit (.bool true))
    rw [atKey_of_not_has hh] at h1 h2
    rw [← h1] at h2
    cases h2
theorem ptrElem_val {v : Value} {y : DataW Unit × List MemPlace} (h : ptrElem v = some y) {b : Nat} (hy : y.1 = .lit (.int .i64 b)) : v = .pointer (some ⟨b, 0, none⟩) := by
  obtain ⟨y1, ps⟩ := y
  simp only at hy
  subst hy
  exact ptrElem_inv h
theorem wpList_next_dic {ops : Array Oper} {rest : List Oper} {o : Oper} {a : Act} {Q : Exit → Act → World → Prop} (w : World) (hg : o.guard = none) (it : Operand) (hop : o.op = Op.next it false)
    {L : List (List UInt8 × Nat)} {D : DataW Unit} (hD : Dic D L) (mb r n : Nat) (left : Lit → Bool) (cnt : Nat) (hit : a.eval it = .pointer (some ⟨r, 0, none⟩)) (h : w.ranges Tryz.prog 9 ptrElem mb r n D left cnt)
    (hDone : (∀ kl, left kl = false) → wpList Tryz.prog ops Q rest (a.put o.dst (.tuple #[.bool false])) w)
    (hMore : ∀ (s : List UInt8) (b : Nat) (w' : World) (cnt' : Nat), (s, b) ∈ L → left (.string s) = true → w'.ranges Tryz.prog 9 ptrElem mb r n D (fun z => left z && !z.sameKey (.string s)) cnt' → cnt' < cnt →
      w.grownBy w' (some r) → w'.heap.size = w.heap.size → (Instr.entry (.pointer (some ⟨r, 0, none⟩))).run Tryz.prog w' = .ok (.tuple #[encStr s, .pointer (some ⟨b, 0, none⟩)]) w' → Hid (keyOf Tryz.prog 9 (encStr s) = some (.string s)) →
      wpList Tryz.prog ops Q rest (a.put o.dst (.tuple #[.bool true, encStr s, .pointer (some ⟨b, 0, none⟩)])) w') :
    wpList Tryz.prog ops Q (o :: rest) a w := by
  refine wpList_next_ranges w hg it hop 9 (string_keyed Tryz.underlying9) ptrElem encStr id (fun key kl hk => by obtain ⟨x, hx, _⟩ := Maps.keyOf_str Tryz.underlying9 hk; exact ⟨x, hx⟩) (fun v _ _ => ⟨v, rfl⟩) mb r n D left cnt hit h (fun _ hl => hDone hl) ?_
  intro x c kl y w' cnt' hkey hlk hv hat hrg hlt hgr hsz hen
  obtain ⟨x', ex, rfl, _⟩ := Maps.keyOf_str Tryz.underlying9 hkey
  obtain rfl : x = x' := encStr_inj ex
  obtain ⟨b, hb, hy⟩ := hD.came hat
  have hc : c = .pointer (some ⟨b, 0, none⟩) := ptrElem_val hv hy
  subst hc
  exact hMore x b w' cnt' hb hlk hrg hlt hgr hsz hen (Lib.hid hkey)
theorem grown_setC (w : World) (a : Addr) (u : Value) : w.grownBy (w.setCell a u) (some a.block) :=
  ⟨rfl, rfl, rfl, by simp [World.setCell], fun k _ hk => Below.heap_setCell _ _ _ _ (fun e => hk (by rw [e]))⟩
theorem Only.grown {S : Nat → Prop} {w w' : World} (h : Only S w w') {row : Option Nat} (hr : ∀ k, k < w.heap.size → S k → row = some k) : w.grownBy w' row :=
  ⟨h.os, h.tape, h.output, h.size, fun k hk hn => h.block k hk (fun hs => hn (hr k hk hs).symm)⟩
theorem sameKey_str (x y : List UInt8) : (Lit.string x).sameKey (.string y) = decide (x = y) := by
  by_cases h : x = y
  · simp [Lit.sameKey, h]
  · simp [Lit.sameKey, h]
theorem DiskIs.narrow {w : World} {S S' : Nat → Prop} {q mb : Nat} {fv : Value} {L : List Fl} {d : Dk} (h : DiskIs w S' q mb fv L d) (hn : ∀ k, S' k → S k) (hl : ∀ k, S k → k < w.heap.size) : DiskIs w S q mb fv L d :=
  { h with foot := fun k hk => hn k (h.foot k hk), low := hl }
theorem flatMap_sub {α β : Type} (f : α → List β) {l l' : List α} (h : l'.Sublist l) : (l'.flatMap f).Sublist (l.flatMap f) := by
  induction h with
  | slnil => exact List.Sublist.refl _
  | cons a _ ih => exact (ih.trans (List.sublist_append_right _ _))
  | cons_cons a _ ih => exact ih.append_left _
/-- some files are struck -/
theorem DiskIs.files_sub {w w' : World} {S : Nat → Prop} {q mb : Nat} {fv : Value} {L L' : List Fl} {d : Dk} {n' : Nat} {D' : DataW Unit} (h : DiskIs w S q mb fv L d) (hL : L'.Sublist L) (ho : Only (fun k => k = mb) w w')
    (hm : w'.ownsMap Tryz.prog 9 ptrElem mb n' D') (hd : Dic D' (L'.map fun x => (x.f.name, x.blk))) : DiskIs w' S q mb fv L' { d with files := L'.map (·.f) } := by
  have hsb : (diskBlocks q mb fv L').Sublist (diskBlocks q mb fv L) := ((((flatMap_sub Fl.blocks hL).append_left _).cons_cons mb).cons_cons q)
  have hin : ∀ k ∈ diskBlocks q mb fv L', S k := fun k hk => h.foot k (hsb.subset hk)
  have hnd := h.apart.sublist hsb
  have hne : ∀ k ∈ diskBlocks q mb fv L', k ≠ mb → w'.heap[k]? = w.heap[k]? := fun k hk hk' => ho.block k (h.low k (hin k hk)) hk'
  have hap := hnd
  simp only [diskBlocks, List.nodup_cons, List.mem_cons, not_or] at hap
  have hmb : ∀ k, k ∈ fv.ownBlock.toList ++ L'.flatMap Fl.blocks → k ≠ mb := fun k hk e => hap.2.1 (e ▸ hk)
  have hsub : (L'.map (·.f)).Sublist d.files := by rw [← h.files]; exact hL.map _
  have hs2 : ((L'.map (·.f)).map (·.name)).Pairwise (· < ·) := h.sorted.sublist (hsub.map _)
  exact {
    files := rfl
    head := (hne q (by simp [diskBlocks]) (fun e => hap.1.1 e)).trans h.head
    fates := h.fates.kept (fun k hk => hne k (by simp [diskBlocks, hk]) (hmb k (by simp [hk])))
    map := by
      refine ⟨D', ?_, hd⟩
      have h1 := ownsMap_tight hm
      rw [hd.size hm (by
        rw [List.map_map]
        have : (L'.map (·.f.name)).Pairwise (· < ·) := by simpa [Function.comp_def] using hs2
        exact this.imp (fun {a b} hab he => by rw [he] at hab; exact List.lt_irrefl _ hab))] at h1
      simpa using h1
    each := fun y hy => (h.each y (hL.subset hy)).kept (fun k hk => by
        have h1 : k ∈ fv.ownBlock.toList ++ L'.flatMap Fl.blocks := List.mem_append_right _ (List.mem_flatMap.2 ⟨y, hy, hk⟩)
        exact hne k (by simp only [diskBlocks, List.mem_cons]; exact .inr (.inr h1)) (hmb k h1))
    apart := hnd
    foot := hin
    low := fun k hk => Nat.lt_of_lt_of_le (h.low k hk) ho.size
    sorted := hs2
    names := fun f hf => h.names f (hsub.subset hf)
    few := Nat.le_trans hsub.length_le h.few }
def Dk.syncdir (d : Dk) : Int × Dk :=
  if d.fate.1 ≠ 0 then (d.fate.1, d.next)
  else (0, { d.next with files := (d.files.filter (·.there)).map fun f => { f with named := true } })
end Go.Proofs.YtmkjejngnahpeaaGreat
/- Disk: SyncDir: what is gone is struck from the map. -/
namespace Go.Proofs.YtmkjejngnahpeaaGreat
open Go Go.Maps Go.RowKit
open Go.Proofs (encStr)

set_option maxHeartbeats 400000 in
theorem gone_b {w : World} {x : Fl} (s : Value) {b : Bool} (hb : x.f.there = b) (h : FlAt w x) : Calls Tryz.prog 27 #[s, .pointer (some ⟨x.blk, 0, none⟩)] w fun e w' => e = .returned (.bool (!b)) ∧ w' = w := by
  have c2 : w.cell? ⟨x.blk, 2, none⟩ = some (.bool b) := by rw [← hb]; exact cell_of h.cells rfl
  clear h hb
  go_enter Tryz.func27, Tryz.ntmps27
  go_wp2_with fail
  go_ret
  exact ⟨rfl, rfl⟩
/-- the files that are there, or are still to come -/
def stayF (left : Lit → Bool) (L : List Fl) : List Fl := L.filter fun x => x.f.there || left (.string x.f.name)
theorem stayF_sub (left : Lit → Bool) (L : List Fl) : (stayF left L).Sublist L := List.filter_sublist
def pairsF (L : List Fl) : List (List UInt8 × Nat) := L.map fun x => (x.f.name, x.blk)
theorem mem_pairsF {L : List Fl} {s : List UInt8} {b : Nat} (h : (s, b) ∈ pairsF L) : ∃ x ∈ L, x.f.name = s ∧ x.blk = b := by
  obtain ⟨x, hx, he⟩ := List.mem_map.1 h
  simp only [Prod.mk.injEq] at he
  exact ⟨x, hx, he.1, he.2⟩
theorem eq_of_name {L : List Fl} (hnd : (L.map (·.f.name)).Nodup) {x y : Fl} (hx : x ∈ L) (hy : y ∈ L) (h : x.f.name = y.f.name) : x = y := by
  induction L with
  | nil => cases hx
  | cons a l ih =>
    rw [List.map_cons, List.nodup_cons] at hnd
    rcases List.mem_cons.1 hx with hx1 | hx1
    · rcases List.mem_cons.1 hy with hy1 | hy1
      · rw [hx1, hy1]
      · exact absurd (by rw [← hx1, h]; exact List.mem_map_of_mem (f := fun x : Fl => x.f.name) hy1) hnd.1
    · rcases List.mem_cons.1 hy with hy1 | hy1
      · exact absurd (by rw [← hy1, ← h]; exact List.mem_map_of_mem (f := fun x : Fl => x.f.name) hx1) hnd.1
      · exact ih hnd.2 hx1 hy1
theorem stay_there {L : List Fl} (hnd : (L.map (·.f.name)).Nodup) {left : Lit → Bool} {x : Fl} (hx : x ∈ L) (ht : x.f.there = true) : stayF (fun z => left z && !z.sameKey (.string x.f.name)) L = stayF left L := by
  refine List.filter_congr fun y hy => ?_
  by_cases he : y.f.name = x.f.name
  · rw [eq_of_name hnd hy hx he, ht]; rfl
  · show (y.f.there || (left _ && !_)) = _
    rw [sameKey_str, decide_eq_false he]; simp
theorem stay_gone {L : List Fl} (hnd : (L.map (·.f.name)).Nodup) {left : Lit → Bool} {x : Fl} (hx : x ∈ L) (ht : x.f.there = false) (f : List UInt8 × Nat) : f ∈ pairsF (stayF (fun z => left z && !z.sameKey (.string x.f.name)) L) ↔ f ∈ pairsF (stayF left L) ∧ f.1 ≠ x.f.name := by
  simp only [pairsF, stayF, List.mem_map, List.mem_filter]
  constructor
  · rintro ⟨y, ⟨hy, hk⟩, rfl⟩
    have hne : y.f.name ≠ x.f.name := fun he => by
      rw [eq_of_name hnd hy hx he, ht, sameKey_str] at hk
      simp at hk
    refine ⟨⟨y, ⟨hy, ?_⟩, rfl⟩, hne⟩
    rw [sameKey_str, decide_eq_false hne] at hk
    simpa using hk
  · rintro ⟨⟨y, ⟨hy, hk⟩, rfl⟩, hne⟩
    refine ⟨y, ⟨hy, ?_⟩, rfl⟩
    rw [sameKey_str, decide_eq_false hne]
    simpa using hk
set_option maxRecDepth 100000 in
set_option maxHeartbeats 1000000 in
theorem delGone_b {w : World} {S : Nat → Prop} {q mb : Nat} {fv : Value} {L : List Fl} {d : Dk} (h : DiskIs w S q mb fv L d) :
    Calls Tryz.prog 26 #[.map (some mb), .func (.func 27) #[] #[]] w fun e w' => e = .returned (.tuple #[]) ∧
      (∃ n' D, w'.ownsMap Tryz.prog 9 ptrElem mb n' D ∧ Dic D (pairsF (L.filter (·.f.there)))) ∧ Only (fun k => k = mb) w w' := by
  obtain ⟨D0, hown, hsz, hd⟩ := h.look
  have hnd := h.nodup
  have hmS : S mb := h.foot mb (by simp [diskBlocks])
  have hmb : mb < w.heap.size := h.low _ hmS
  have hxb : ∀ x ∈ L, ∀ k ∈ x.blocks, k < w.heap.size ∧ k ≠ mb := fun x hx k hk => by
    have hk' : k ∈ L.flatMap Fl.blocks := List.mem_flatMap.2 ⟨x, hx, hk⟩
    have h1 := h.apart
    simp only [diskBlocks, List.nodup_cons] at h1
    exact ⟨h.low k (h.foot k (by simp only [diskBlocks, List.mem_cons, List.mem_append]; exact .inr (.inr (.inr hk')))), fun e => h1.2.1 (by rw [← e]; exact List.mem_append_right _ hk')⟩
  have HX := Lib.hid hxb
  have HE := Lib.hid h.each
  have HND := Lib.hid hnd
  have HD : Hid (Dic D0 (pairsF L)) := Lib.hid hd
  clear h hd hnd hxb hmS hsz
  go_enter Tryz.func26, Tryz.ntmps26
  go_wp2_with (at_range; refine wpList_range_own _ rfl _ 63 rfl 9 79 (string_keyed Tryz.underlying9) Tryz.underlying63 ptrElem mb _ _ rfl hown ?_; intro w0 hrg0 hg0 hs0)
  go_frame
  go_loopw [8] (fun _ wr => ∃ (left : Lit → Bool) (cnt : Nat) (D : DataW Unit), wr.ranges Tryz.prog 9 ptrElem mb w.heap.size L.length D left cnt ∧ Hid (Dic D (pairsF (stayF left L))) ∧ Only (fun k => k = mb) w wr)
    (fun _ wr => wr.rangeLeft mb w.heap.size)
  case atStart =>
    refine ⟨_, _, _, hrg0, Lib.hid ?_, Only.of_grown (S := fun k => k = mb) (hg0.but (some mb)) (fun k hk => by simp at hk; exact hk.symm)⟩
    have e : stayF (has D0) L = L := List.filter_eq_self.2 fun x hx => by
      rw [(HD.out.has x.f.name).2 ⟨_, List.mem_map_of_mem (f := fun x : Fl => (x.f.name, x.blk)) hx, rfl⟩]
      simp
    rw [e]
    exact HD.out
  case round =>
    obtain ⟨left, cnt, D, hrg, HDC, ho⟩ := hrel
    go_wp2_with (at_next; refine wpList_next_dic _ rfl _ rfl HDC.out mb w.heap.size L.length left cnt rfl hrg ?_ ?_)
    · intro hl0
      go_wp2
      go_end0
      refine ⟨rfl, ⟨_, D, hrg.owns, ?_⟩, ho⟩
      have e : stayF left L = L.filter (·.f.there) := List.filter_congr fun x _ => by rw [hl0]; simp
      rw [← e]
      exact HDC.out
    · intro s b w1 cnt1 hmem hls hrg1 hlt hg1 hs1 hen HKEY
      obtain ⟨x, hx, rfl, rfl⟩ := mem_pairsF hmem
      have hxL : x ∈ L := (stayF_sub left L).subset hx
      have ho1 : Only (fun k => k = mb) w w1 := ho.trans (Only.of_grown (S := fun k => k = w.heap.size) hg1 (fun k hk => by simp at hk; exact hk.symm)) (fun i hi he => by omega)
      have HFX : Hid (FlAt w1 x) := Lib.hid ((HE.out x hxL).kept (fun k hk => ho1.block k (HX.out x hxL k hk).1 (HX.out x hxL k hk).2))
      obtain ⟨th, hth⟩ : ∃ th, x.f.there = th := ⟨_, rfl⟩
      cases th
      · have HT : Hid (Dic (D.del (.string x.f.name)) (pairsF (stayF (fun z => left z && !z.sameKey (.string x.f.name)) L))) := Lib.hid (HDC.out.del _ (stay_gone HND.out hxL hth))
        go_wp2_with (first
          | (go_at_call 27; refine (gone_b _ hth HFX.out).mono ?_; rintro e w2 ⟨rfl, rfl⟩)
          | (at_delete; refine wpList_delete_ranges _ rfl _ _ 63 9 rfl 79 (string_keyed Tryz.underlying9) Tryz.underlying63 ptrElem mb w.heap.size L.length _ _ _ rfl hrg1 _ _ rfl HKEY.out ?_; intro w3 cnt3 hrg3 hle hturn; go_frame))
        rw [strike_twice] at hrg3
        go_roundw
        case rel => exact ⟨_, cnt3, _, hrg3, HT, ho1.trans (Only.of_grown (S := fun k => k = mb) hturn.grown (fun k hk => by simp at hk; exact hk.symm)) (fun _ _ h => h)⟩
        case measure => rw [hrg3.left_eq, hrg.left_eq]; omega
      · have HT : Hid (Dic D (pairsF (stayF (fun z => left z && !z.sameKey (.string x.f.name)) L))) := Lib.hid (by rw [stay_there HND.out hxL hth]; exact HDC.out)
        go_wp2_with (go_at_call 27; refine (gone_b _ hth HFX.out).mono ?_; rintro e w2 ⟨rfl, rfl⟩)
        go_roundw
        case rel => exact ⟨_, cnt1, D, hrg1, HT, ho1⟩
        case measure => rw [hrg1.left_eq, hrg.left_eq]; exact hlt
end Go.Proofs.YtmkjejngnahpeaaGreat
/- Disk: SyncDir. -/
namespace Go.Proofs.YtmkjejngnahpeaaGreat
open Go Go.Maps Go.RowKit
open Go.Proofs (encStr)

def nameF (x : Fl) : Fl := { x with f := { x.f with named := true } }
/-- the files, as they stand while some are still to come -/
def namedF (left : Lit → Bool) (x : Fl) : Fl := if left (.string x.f.name) = true then x else nameF x
theorem namedF_name (left : Lit → Bool) (x : Fl) : (namedF left x).f.name = x.f.name ∧ (namedF left x).blk = x.blk := by
  unfold namedF
  split <;> exact ⟨rfl, rfl⟩
theorem pairs_named (left : Lit → Bool) (L : List Fl) : pairsF (L.map (namedF left)) = pairsF L := by
  unfold pairsF
  rw [List.map_map]
  exact List.map_congr_left fun x _ => by simp [(namedF_name left x).1, (namedF_name left x).2]
theorem named_split {L : List Fl} (hnd : (L.map (·.f.name)).Nodup) {left : Lit → Bool} {x : Fl} (hx : x ∈ L) (hl : left (.string x.f.name) = true) :
    ∃ A B, L.map (namedF left) = A ++ x :: B ∧ L.map (namedF fun z => left z && !z.sameKey (.string x.f.name)) = A ++ nameF x :: B := by
  obtain ⟨A, B, rfl⟩ := List.append_of_mem hx
  have hne : ∀ y, y ∈ A ∨ y ∈ B → y.f.name ≠ x.f.name := fun y hy he => by
    rw [List.map_append, List.map_cons] at hnd
    have h2 := List.nodup_append.1 hnd
    rcases hy with hy | hy
    · exact h2.2.2 y.f.name (List.mem_map_of_mem (f := fun x : Fl => x.f.name) hy) x.f.name (by simp) he
    · exact (List.nodup_cons.1 h2.2.1).1 (by rw [← he]; exact List.mem_map_of_mem (f := fun x : Fl => x.f.name) hy)
  have hc : ∀ l : List Fl, (∀ y ∈ l, y.f.name ≠ x.f.name) → l.map (namedF fun z => left z && !z.sameKey (.string x.f.name)) = l.map (namedF left) := fun l hl => List.map_congr_left fun y hy => by
    show (if (left (.string y.f.name) && !(Lit.string y.f.name).sameKey (.string x.f.name)) = true then y else nameF y) = if left (.string y.f.name) = true then y else nameF y
    rw [sameKey_str, decide_eq_false (hl y hy)]
    simp
  refine ⟨A.map (namedF left), B.map (namedF left), ?_, ?_⟩
  · rw [List.map_append, List.map_cons]
    congr 2
    unfold namedF
    rw [hl]
    rfl
  · rw [List.map_append, List.map_cons, hc A (fun y hy => hne y (.inl hy)), hc B (fun y hy => hne y (.inr hy))]
    congr 2
    show (if (left (.string x.f.name) && !(Lit.string x.f.name).sameKey (.string x.f.name)) = true then x else nameF x) = nameF x
    rw [sameKey_str]
    simp
theorem set_named {w : World} {S : Nat → Prop} {q mb : Nat} {fv : Value} {A B : List Fl} {x : Fl} {d : Dk} (h : DiskIs w S q mb fv (A ++ x :: B) d) :
    DiskIs (w.setCell ⟨x.blk, 3, none⟩ (.bool true)) S q mb fv (A ++ nameF x :: B) { d with files := (A ++ nameF x :: B).map (·.f) } := by
  have hx := h.each x (by simp)
  have hset : Only (fun k => k = x.blk) w (w.setCell ⟨x.blk, 3, none⟩ (.bool true)) := only_setCell (fun k => k = x.blk) w x.blk 3 _ rfl
  have h1 := h.file_turn (x' := nameF x) rfl rfl (hset.mono (fun i _ hi => by rw [hi]; simp [Fl.blocks])) ⟨heap_setCell_here (w := w) _ hx.cells, hx.row.kept (fun k hk => hset.block k (hx.row.lt k hk) (FlAt.own_ne h k hk)), hx.lasts, hx.size⟩ (fun k hk => .inl hk)
  have e : (A ++ nameF x :: B).map (·.f) = A.map (·.f) ++ (nameF x).f :: B.map (·.f) := by simp
  rw [e]
  refine h1.narrow (fun k hk => ?_) (fun k hk => ?_)
  · rcases hk with hk | hk
    · exact hk
    · have h2 : (w.setCell ⟨x.blk, 3, none⟩ (.bool true)).heap.size = w.heap.size := by simp [World.setCell]
      omega
  · have := h.low k hk
    simpa [World.setCell] using this
theorem syncdir_plain {L : List Fl} {d : Dk} {left : Lit → Bool} (hl : ∀ k, left k = false) (hf : d.fate.1 = 0) (hL : L.map (·.f) = d.files.filter (·.there)) :
    d.syncdir = (0, { d.next with files := (L.map (namedF left)).map (·.f) }) := by
  unfold Dk.syncdir
  rw [hf, if_neg (by simp), ← hL, List.map_map, List.map_map]
  have e : L.map ((fun f : F0 => { f with named := true }) ∘ fun x : Fl => x.f) = L.map ((fun x : Fl => x.f) ∘ namedF left) := List.map_congr_left fun x _ => by simp [namedF, hl, nameF]
  rw [e]
set_option maxRecDepth 100000 in
set_option maxHeartbeats 1000000 in
theorem syncdir_b {w : World} {S : Nat → Prop} {q : Nat} {d : Dk} (h : DiskAt w S q d) :
    Calls Tryz.prog 8 #[.pointer (some ⟨q, 0, none⟩)] w fun e w' => OpIs w S q d.syncdir e w' := by
  obtain ⟨mb, fv, L, h⟩ := h
  have H := Lib.hid h
  clear h
  go_enter Tryz.func8, Tryz.ntmps8
  go_wp2_with fail
  refine (none_b H.out).mono ?_
  rintro e w' ⟨rfl, rfl⟩
  go_wp2_with fail
  refine (step_b H.out).mono ?_
  rintro e w1 ⟨kd, kp, fv', rfl, hkp, h1, ho1⟩
  obtain ⟨er, her⟩ : ∃ er, d.fate.1 = er := ⟨_, rfl⟩
  rw [her]
  have H1 := Lib.hid h1
  have HO1 := Lib.hid ho1
  have HE := Lib.hid her
  clear h1 ho1 hkp her
  go_upto_region 4 with fail
  obtain ⟨w2, hw2⟩ : ∃ w2 : World, w2 = w1.alloc (.cells #[.int .i64 kd, .int .i64 kp] 67) := ⟨_, rfl⟩
  obtain ⟨r, hr⟩ : ∃ r, r = w1.heap.size := ⟨_, rfl⟩
  have h2 : DiskIs w2 S q mb fv' L d.next := by rw [hw2]; exact H1.out.below ((Below.refl _ _).alloc (Nat.le_refl _) _)
  have ho2 : Only (fun k => k = q) w' w2 := by rw [hw2]; exact HO1.out.trans (only_alloc (fun k => k = q) _ _) (fun _ _ h => h)
  rw [← hw2, ← hr]
  clear hw2 hr H1 HO1
  have H2 := Lib.hid h2
  have HO2 := Lib.hid ho2
  clear h2 ho2
  by_cases h0 : er = 0
  · subst h0
    have c0 : w2.cell? ⟨q, 0, none⟩ = some (.map (some mb)) := cell_of H2.out.head rfl
    go_wp2_with fail
    refine (delGone_b H2.out).mono ?_
    rintro e w3 ⟨rfl, ⟨n', D, hown, hdic⟩, ho3⟩
    have h3 := H2.out.files_sub (L' := L.filter (·.f.there)) List.filter_sublist ho3 hown hdic
    obtain ⟨Lt, hLt⟩ : ∃ Lt, Lt = L.filter (·.f.there) := ⟨_, rfl⟩
    rw [← hLt] at h3 hdic
    have c0 : w3.cell? ⟨q, 0, none⟩ = some (.map (some mb)) := cell_of h3.head rfl
    have hown3 := ownsMap_tight hown
    have hnd := h3.nodup
    rw [hdic.size hown (by unfold pairsF; rw [List.map_map]; exact hnd)] at hown3
    have HDIC := Lib.hid hdic
    have HND := Lib.hid hnd
    have H3 := Lib.hid h3
    have HO3 : Hid (Only S w' w3) := Lib.hid ((HO2.out.mono (fun i _ hi => by rw [hi]; exact H2.out.q_mem)).trans ho3 (fun i _ hi => by rw [hi]; exact H2.out.foot _ (by simp [diskBlocks])))
    have HLT : Hid (Lt.map (·.f) = d.files.filter (·.there)) := Lib.hid (by
      rw [hLt]
      have : d.files = L.map (·.f) := H2.out.files.symm
      rw [this, List.filter_map]
      rfl)
    have hmb3 : Hid (mb < w3.heap.size) := Lib.hid hown3.lt
    have HSS : Hid (∀ k, S k → k < w3.heap.size) := Lib.hid h3.low
    clear hown hdic ho3 h3 hnd hLt H2 HO2
    go_wp2_with (at_range; refine wpList_range_own _ rfl _ 63 rfl 9 79 (string_keyed Tryz.underlying9) Tryz.underlying63 ptrElem mb _ _ rfl hown3 ?_; intro w4 hrg4 hg4 hs4)
    go_frame
    go_loopw [27] (fun _ wr => ∃ (left : Lit → Bool) (cnt : Nat), wr.ranges Tryz.prog 9 ptrElem mb w3.heap.size (pairsF Lt).length D left cnt ∧ Hid (DiskIs wr S q mb fv' (Lt.map (namedF left)) { d.next with files := (Lt.map (namedF left)).map (·.f) }) ∧ Hid (Only S w' wr))
      (fun _ wr => wr.rangeLeft mb w3.heap.size)
    case atStart =>
      have ho4 : Only (fun _ => False) w3 w4 := Only.of_grown (S := fun _ => False) hg4 (fun k hk => by simp at hk)
      refine ⟨_, _, hrg4, Lib.hid ?_, Lib.hid (HO3.out.trans ho4 (fun i _ hi => hi.elim))⟩
      have e : Lt.map (namedF (has D)) = Lt := by
        refine (List.map_congr_left fun x hx => ?_).trans (List.map_id _)
        have : has D (.string x.f.name) = true := (HDIC.out.has x.f.name).2 ⟨_, List.mem_map_of_mem (f := fun x : Fl => (x.f.name, x.blk)) hx, rfl⟩
        simp [namedF, this]
      rw [e]
      exact H3.out.only ho4 (fun _ _ h => h)
    case round =>
      obtain ⟨left, cnt, hrg, HDI, HO⟩ := hrel
      go_wp2_with (at_next; refine wpList_next_dic _ rfl _ rfl HDIC.out mb w3.heap.size _ left cnt rfl hrg ?_ ?_)
      · intro hl0
        have HX : Hid (OpIs w' S q d.syncdir (.returned (.int .i64 0)) wr) := Lib.hid (by
          rw [syncdir_plain hl0 HE.out HLT.out]
          refine ⟨rfl, ⟨mb, fv', _, HDI.out.wider (fun k hk => .inl hk) (fun k hk => ?_)⟩, HO.out⟩
          rcases hk with hk | hk
          · exact HDI.out.low k hk
          · exact hk.2)
        go_wp2_with fail
        go_ret
        exact HX.out
      · intro s b w5 cnt5 hmem hls hrg5 hlt hg5 hs5 hen HKEY
        obtain ⟨x, hx, rfl, rfl⟩ := mem_pairsF hmem
        obtain ⟨A, B, hAB, hAB'⟩ := named_split HND.out hx hls
        have hdi := HDI.out
        rw [hAB] at hdi
        have ho5 : Only (fun k => k = w3.heap.size) wr w5 := Only.of_grown (S := fun k => k = w3.heap.size) hg5 (fun k hk => by simp at hk; exact hk.symm)
        have hd5 := hdi.only ho5 (fun k hk he => by have := HSS.out k hk; omega)
        have hxc := (hd5.each x (by simp)).cells
        have k3 : w5.cell? ⟨x.blk, 3, none⟩ = some (.bool x.f.named) := cell_of hxc rfl
        have z3 : w5.frozen? ⟨x.blk, 3, none⟩ = false := free_of hxc _
        have hdn := set_named hd5
        obtain ⟨w6, hw6⟩ : ∃ w6 : World, w6 = w5.setCell ⟨x.blk, 3, none⟩ (.bool true) := ⟨_, rfl⟩
        rw [← hw6] at hdn
        have hxS : S x.blk := hd5.x_mem x.blk (by simp [Fl.blocks])
        have hxne : x.blk ≠ mb := fun e => by
          have h1 := (blocks_perm q mb fv' A x B).nodup_iff.1 hd5.apart
          exact not_mem_of_nodup_append h1 (k := x.blk) (by simp [Fl.blocks]) (by rw [e]; simp [diskBlocks])
        have hrg6 : w6.ranges Tryz.prog 9 ptrElem mb w3.heap.size (pairsF Lt).length D (fun z => left z && !z.sameKey (.string x.f.name)) cnt5 := by
          rw [hw6]
          exact hrg5.kept (grown_setC w5 ⟨x.blk, 3, none⟩ _) (by simp; omega) (by have := HSS.out _ hxS; simp; omega)
        have HO6 : Hid (Only S w' w6) := Lib.hid (by
          rw [hw6]
          exact (HO.out.trans ho5 (fun i hi he => by have := HO3.out.size; omega)).trans (only_setCell S _ _ _ _ hxS) (fun _ _ h => h))
        have HDN : Hid (DiskIs w6 S q mb fv' (Lt.map (namedF fun z => left z && !z.sameKey (.string x.f.name))) { d.next with files := (Lt.map (namedF fun z => left z && !z.sameKey (.string x.f.name))).map (·.f) }) := Lib.hid (by rw [hAB']; exact hdn)
        clear hdi ho5 hd5 hdn hxc hAB hAB'
        go_wp2_with fail
        rw [← hw6]
        go_roundw
        case rel => exact ⟨_, _, hrg6, HDN, HO6⟩
        case measure => rw [hrg6.left_eq, hrg.left_eq]; exact hlt
  · have hb0 : (er != 0) = true := by simpa using h0
    have HO : Hid (OpIs w' S q d.syncdir (.returned (.int .i64 er)) w2) := Lib.hid (by
      rw [show d.syncdir = (er, d.next) by
        unfold Dk.syncdir
        rw [HE.out, if_pos h0]]
      exact OpIs.next HO2.out H2.out er)
    clear h0
    go_wp2_with fail
    go_ret
    exact HO.out
end Go.Proofs.YtmkjejngnahpeaaGreat
