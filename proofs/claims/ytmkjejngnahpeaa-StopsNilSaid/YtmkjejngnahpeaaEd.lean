/- Disk: what a crash leaves. -/
import Derived.Test.YtmkjejngnahpeaaEc
import Derived.Maps.OwnOps
namespace Go.Proofs.Ytmkjejngnahpeaa
open Go Go.Maps Go.RowKit
open Go.Proofs (encStr)

def keepP (f : F0) (ps : List Int) : Bool × List Int := if f.there && f.named then (true, ps) else (decide ((nextP 2 ps).1 ≠ 0), (nextP 2 ps).2)
def moreP (f : F0) (ps : List Int) : Nat × List Int := if f.there && decide (f.lasts < f.bytes.length) then nextP (f.bytes.length - f.lasts + 1) ps else (0, ps)
def cutF (f : F0) (k : Nat) : F0 := ⟨f.name, f.bytes.take (f.lasts + k), f.lasts + k, true, true⟩
def crashStep (s : List F0 × List Int) (f : F0) : List F0 × List Int :=
  if (keepP f s.2).1 = false then (s.1, (keepP f s.2).2) else (s.1 ++ [cutF f (moreP f (keepP f s.2).2).1], (moreP f (keepP f s.2).2).2)
def crashTo (l : List F0) (ps : List Int) : List F0 × List Int := l.foldl crashStep ([], ps)
def Dk.crash (d : Dk) (ps : List Int) : Dk := ⟨(crashTo d.files ps).1, [], 0⟩
def PicksOk (ps : List Int) : Prop := ∀ x ∈ ps, 0 ≤ x ∧ x ≤ 9223372036854775807
theorem nextP_ok (of : Nat) {ps : List Int} (h : PicksOk ps) : PicksOk (nextP of ps).2 := by
  cases ps with
  | nil => exact h
  | cons p r => exact fun x hx => h x (List.mem_cons_of_mem _ hx)
theorem keepP_ok (f : F0) {ps : List Int} (h : PicksOk ps) : PicksOk (keepP f ps).2 := by
  unfold keepP
  split
  · exact h
  · exact nextP_ok _ h
theorem moreP_ok (f : F0) {ps : List Int} (h : PicksOk ps) : PicksOk (moreP f ps).2 := by
  unfold moreP
  split
  · exact nextP_ok _ h
  · exact h
theorem nextP_lt (of : Nat) (ps : List Int) (h : 0 < of) : (nextP of ps).1 < of := by
  cases ps with
  | nil => exact h
  | cons p r => exact Nat.mod_lt _ h
theorem moreP_le (f : F0) (ps : List Int) (h : f.lasts ≤ f.bytes.length) : f.lasts + (moreP f ps).1 ≤ f.bytes.length := by
  unfold moreP
  split
  · have := nextP_lt (f.bytes.length - f.lasts + 1) ps (by omega)
    omega
  · simpa using h
theorem crashTo_snoc (l : List F0) (f : F0) (ps : List Int) : crashTo (l ++ [f]) ps = crashStep (crashTo l ps) f := by simp [crashTo]
theorem crashStep_names (s : List F0 × List Int) (f : F0) : ∀ g ∈ (crashStep s f).1, g ∈ s.1 ∨ g.name = f.name := fun g hg => by
  unfold crashStep at hg
  split at hg
  · exact .inl hg
  · rcases List.mem_append.1 hg with h | h
    · exact .inl h
    · simp only [List.mem_singleton] at h
      exact .inr (by rw [h]; rfl)
theorem crashTo_names (ps : List Int) : ∀ (l : List F0) (s : List F0 × List Int) (g : F0), g ∈ (l.foldl crashStep s).1 → g ∈ s.1 ∨ ∃ f ∈ l, g.name = f.name
  | [], s, g, hg => .inl hg
  | f :: r, s, g, hg => by
    rcases crashTo_names ps r (crashStep s f) g hg with h | ⟨f', hf', he⟩
    · rcases crashStep_names s f g h with h | h
      · exact .inl h
      · exact .inr ⟨f, by simp, h⟩
    · exact .inr ⟨f', by simp [hf'], he⟩
theorem DiskIs.lookup1_some {w : World} {S : Nat → Prop} {q mb : Nat} {fv : Value} {L : List Fl} {d : Dk} (h : DiskIs w S q mb fv L d) {x : Fl} (hx : x ∈ L) {nm : ByteArray} (hs : nm.size ≤ maxLen) (hn : x.f.name = nm.data.toList) :
    (Instr.lookup 120 (.map (some mb)) (.string nm) false).run Try.prog w = .ok (.pointer (some ⟨x.blk, 0, none⟩)) w := by
  obtain ⟨D, ho, hsz, hd⟩ := h.look
  have hz : (zeroValue 176).run Try.prog w = .ok (.pointer none) w := by kernel_rfl
  obtain ⟨v, ps, hrun, hv⟩ := ho.lookup (t := 120) (string_keyed Try.underlying9) Try.underlying120 hz ptrElem_nil (WideMaps.keyOf_string_mk (P := Try.prog) Try.underlying9 hs)
  have hm : (x.f.name, x.blk) ∈ L.map fun x => (x.f.name, x.blk) := List.mem_map_of_mem (f := fun x => (x.f.name, x.blk)) hx
  have hg := hd.get _ hm .nil
  rw [← hn] at hv
  rw [hg] at hv
  obtain rfl := ptrElem_inv hv
  exact hrun
/-- both disks, beside the picks -/
structure CrashPre (w3 wr : World) (S : Nat → Prop) (q mb : Nat) (fv : Value) (L : List Fl) (d : Dk) (pb Z : Nat) (fl : List F0) : Prop where
  old : DiskIs wr S q mb fv L d
  only : Only (fun k => k = pb ∨ k = pb + 1) w3 wr
  new : ∃ Lo, DiskIs wr (fun k => (k = pb + 2 ∨ k = pb + 1 ∨ w3.heap.size ≤ k) ∧ k < wr.heap.size) (pb + 2) (pb + 1) (.slice none 0 0) Lo ⟨fl, [], 0⟩
  low : ∀ k, S k → k < Z
  z : Z < pb
  size : pb + 3 ≤ w3.heap.size
theorem CrashPre.pick {w3 wr wx : World} {S : Nat → Prop} {q mb : Nat} {fv : Value} {L : List Fl} {d : Dk} {pb Z : Nat} {fl : List F0} (h : CrashPre w3 wr S q mb fv L d pb Z fl) (ho : Only (fun k => k = pb) wr wx) : CrashPre w3 wx S q mb fv L d pb Z fl where
  old := h.old.only ho (fun k hk he => by
    have h1 := h.low k hk
    have h2 := h.z
    omega)
  only := h.only.trans ho (fun i _ hi => .inl hi)
  new := by
    obtain ⟨Lo, hL⟩ := h.new
    have h1 := h.size
    exact ⟨Lo, (hL.only ho (fun k hk he => by have := hk.1; omega)).wider (fun k hk => ⟨hk.1, Nat.lt_of_lt_of_le hk.2 ho.size⟩) (fun k hk => hk.2)⟩
  low := h.low
  z := h.z
  size := h.size
theorem CrashPre.drew {w3 wr : World} {S : Nat → Prop} {q mb : Nat} {fv : Value} {L : List Fl} {d : Dk} {pb Z : Nat} {fl : List F0} (h : CrashPre w3 wr S q mb fv L d pb Z fl) : CrashPre w3 wr.drew S q mb fv L d pb Z fl := h.pick (only_drew (Only.refl _ _))
/-- a file is put into the new disk -/
theorem CrashPre.add {w3 wr w5 w6 : World} {S : Nat → Prop} {q mb : Nat} {fv : Value} {L : List Fl} {d : Dk} {pb Z : Nat} {fl : List F0} (h : CrashPre w3 wr S q mb fv L d pb Z fl) {g : F0} {v : Value} {D : DataW Unit} {n' : Nat} {Lo : List Fl}
    (hLo : DiskIs wr (fun k => (k = pb + 2 ∨ k = pb + 1 ∨ w3.heap.size ≤ k) ∧ k < wr.heap.size) (pb + 2) (pb + 1) (.slice none 0 0) Lo ⟨fl, [], 0⟩) (hd : Dic D (Lo.map fun x => (x.f.name, x.blk)))
    (hnb : NewBytes wr w5 v g.bytes) (hg : (w5.alloc (.cells #[v, .int .i64 g.lasts, .bool g.there, .bool g.named] 178)).grownBy w6 (some (pb + 1)))
    (hm : w6.ownsMap Try.prog 9 ptrElem (pb + 1) n' (D.put (.string g.name) (.lit (.int .i64 w5.heap.size)))) (hl : g.lasts ≤ g.bytes.length) (hsz : g.bytes.length ≤ 16777216) (hnm : nameOk g.name = true) (hlt : ∀ f ∈ fl, f.name < g.name) (hfew : fl.length < 4096) :
    CrashPre w3 w6 S q mb fv L d pb Z (fl ++ [g]) := by
  obtain ⟨hb, hown, hbl⟩ := hnb
  obtain ⟨w5a, hw5a⟩ : ∃ w5a : World, w5a = w5.alloc (.cells #[v, .int .i64 g.lasts, .bool g.there, .bool g.named] 178) := ⟨_, rfl⟩
  rw [← hw5a] at hg
  have hc5 : w5a.heap[w5.heap.size]? = some (.cells #[v, .int .i64 g.lasts, .bool g.there, .bool g.named] 178 (0, 0)) := by rw [hw5a]; exact alloc_cells _ _ _
  have hs5 : w5a.heap.size = w5.heap.size + 1 := by rw [hw5a]; simp
  have ho1 : Only (fun k => k = pb + 1) wr w5 := Only.of_below hbl (Nat.le_refl _) _
  have ho2 : Only (fun k => k = pb + 1) wr w5a := ho1.trans (by rw [hw5a]; exact only_alloc (fun k => k = pb + 1) _ _) (fun _ _ h => h)
  have ho : Only (fun k => k = pb + 1) wr w6 := ho2.trans (Only.of_grown (S := fun k => k = pb + 1) hg (fun k hk => by simp at hk; exact hk.symm)) (fun _ _ h => h)
  have hmb : pb + 1 < wr.heap.size := hLo.low (pb + 1) (hLo.foot (pb + 1) (by simp [diskBlocks]))
  have hsz1 := hbl.size
  have hsz2 := hg.size
  have hfl : Lo.map (·.f) = fl := hLo.files
  have hkeep : ∀ k, k < w5a.heap.size → k ≠ pb + 1 → w6.heap[k]? = w5a.heap[k]? := fun k h1 h2 => hg.block k h1 (by simp; omega)
  have hrow : rowAt w6 5 1 v g.bytes.length (byteCells g.bytes) := by
    have h1 : rowAt w5a 5 1 v g.bytes.length (byteCells g.bytes) := hb.kept (fun k hk => by rw [hw5a]; exact Below.heap_alloc _ _ k (hb.lt k hk))
    exact h1.kept (fun k hk => hkeep k (h1.lt k hk) (by have := hown k hk; omega))
  have h6 := DiskIs.file_add (A := Lo) (B := []) (x' := ⟨g, w5.heap.size, v⟩) (fs := fl ++ [g]) (by simpa using hLo) ho
    ⟨(hkeep w5.heap.size (by omega) (by omega)).trans hc5, hrow, hl, hsz⟩ hm
    (hd.put g.name w5.heap.size (fun f => by
      simp only [List.map_append, List.map_cons, List.map_nil, List.mem_append, List.mem_cons, List.not_mem_nil, or_false]
      exact or_comm) (fun f hf => by
      obtain ⟨y, hy, rfl⟩ := List.mem_map.1 hf
      have h1 := hlt y.f (by rw [← hfl]; exact List.mem_map_of_mem hy)
      exact fun he => by
        have he' : y.f.name = g.name := he
        rw [he'] at h1
        exact List.lt_irrefl _ h1))
    (fun k hk => by
      simp only [Fl.blocks, List.mem_cons, Option.mem_toList] at hk
      rcases hk with rfl | hk
      · show wr.heap.size ≤ w5.heap.size ∧ w5.heap.size < w6.heap.size
        exact ⟨hsz1, by omega⟩
      · have h1 := hown k hk
        have h2 := hb.lt k hk
        exact ⟨h1, by omega⟩)
    (by
      cases hv : v.ownBlock with
      | none => simp [Fl.blocks, hv]
      | some k =>
        have h2 := hb.lt k hv
        simp [Fl.blocks, hv]
        omega)
    (by simp [hfl]) (by
      rw [List.map_append, List.pairwise_append]
      refine ⟨hLo.sorted, by simp, fun a ha b hb' => ?_⟩
      obtain ⟨y, hy, rfl⟩ := List.mem_map.1 ha
      simp only [List.map_cons, List.map_nil, List.mem_singleton] at hb'
      rw [hb']
      exact hlt y hy) hnm hfew
  have h1 := h.size
  exact {
    old := h.old.only ho (fun k hk he => by
      have h1 := h.low k hk
      have h2 := h.z
      omega)
    only := h.only.trans ho (fun i _ hi => .inr hi)
    new := ⟨_, h6.wider (fun k hk => by
      have h3 := h.only.size
      rcases hk with hk | hk
      · exact ⟨hk.1, Nat.lt_of_lt_of_le hk.2 ho.size⟩
      · exact ⟨by omega, hk.2⟩) (fun k hk => hk.2)⟩
    low := h.low
    z := h.z
    size := h.size }
theorem take_files {L : List Fl} {d : Dk} {j : Nat} (hf : L.map (·.f) = d.files) (hj : j < L.length) : d.files.take (j + 1) = d.files.take j ++ [L[j].f] := by
  rw [← hf, List.take_succ_eq_append_getElem (by simpa using hj)]
  simp
theorem keep_eq (P : List Int) : ((((nextP 2 P).1 : Nat) : Int) == 0) = !(decide ((nextP 2 P).1 ≠ 0)) := by
  by_cases h : (nextP 2 P).1 = 0 <;> simp [h]
theorem add_only {wr w5 w6 : World} {b : Nat} {v : Value} {l : List UInt8} {o : Obj} (hnb : NewBytes wr w5 v l) (hg : (w5.alloc o).grownBy w6 (some b)) : Only (fun k => k = b) wr w6 :=
  ((Only.of_below hnb.2.2 (Nat.le_refl _) _).trans (only_alloc (fun k => k = b) w5 o) (fun _ _ h => h)).trans (Only.of_grown (S := fun k => k = b) hg (fun k hk => by simp at hk; exact hk.symm)) (fun _ _ h => h)
theorem crashTo_length (ps : List Int) : ∀ (l : List F0) (s : List F0 × List Int), (l.foldl crashStep s).1.length ≤ s.1.length + l.length
  | [], s => by simp
  | f :: r, s => by
    have h1 := crashTo_length ps r (crashStep s f)
    have h2 : (crashStep s f).1.length ≤ s.1.length + 1 := by
      unfold crashStep
      split
      · simp
      · simp
    simp only [List.foldl_cons, List.length_cons]
    omega
theorem crash_lt {d : Dk} {j : Nat} {f : F0} {ps : List Int} (hs : (d.files.map (·.name)).Pairwise (· < ·)) (ht : d.files.take (j + 1) = d.files.take j ++ [f]) : ∀ g ∈ (crashTo (d.files.take j) ps).1, g.name < f.name := fun g hg => by
  rcases crashTo_names ps _ _ g hg with h | ⟨f', hf', he⟩
  · cases h
  · have h1 : ((d.files.take (j + 1)).map (·.name)).Pairwise (· < ·) := hs.sublist ((List.take_sublist _ _).map _)
    rw [ht, List.map_append, List.pairwise_append] at h1
    rw [he]
    exact h1.2.2 _ (List.mem_map_of_mem hf') _ (by simp)
theorem run_take (oa : Option Addr) (N c E : Nat) (h2 : E ≤ c) (h0 : oa.map (fun x => x.add 0) = oa) (W : World) : (Instr.slice 79 (.slice oa N c) none (some (.int .i64 (E : Int))) none).run Try.prog W = .ok (.slice oa E c) W := by
  have hs : (sizeOf 5).run Try.prog W = .ok 1 W := by kernel_rfl
  have he : Try.prog.elem 79 = 5 := by kernel_rfl
  rw [run_slice_h (P := Try.prog) (w := W) 79 oa N c (by rw [he]; exact Try.underlying79) .i64 E (by omega) (by omega), he, hs]
  simp [Result.andThen, sliced, h0]
theorem step_update {H : Type} {P : Program} (w : World) {ops : Array Oper} {o : Oper} {a : Act} {K : Act → World → Prop} {Q : Exit → Act → World → Prop} {E : Prop}
    (hg : o.guard = none) (m x v : Operand) (t : TypeId) (hop : o.op = Op.mapUpdate t m x v)
    (k e : TypeId) (K0 : Keyed P k) (ht : P.underlying t = some (.map k e)) (R : Value → Option (DataW H × List MemPlace)) (b n : Nat) (D : DataW H)
    (hm : a.eval m = .map (some b)) (hown : w.ownsMap P k R b n D) (hn : n < maxLen) (key val : Value) (kl : Lit) (hx : a.eval x = key) (hv : a.eval v = val) (hkey : keyOf P k key = some kl)
    (d : DataW H) (ps : List MemPlace) (hval : R val = some (d, ps))
    (hK : ∀ w', w'.ownsMap P k R b (n + 1) (D.put kl d) → w.grownBy w' (some b) → K (a.put o.dst undef) w') :
    if Region.wanted o (yielded ops a.tmps) = true then Oper.wp P o a w K Q else E := by
  have hw : Region.wanted o (yielded ops a.tmps) = true := by simp [Region.wanted, hg]
  rw [if_pos hw]
  obtain ⟨w', hrun, r1, r2⟩ := hown.update K0 ht hn hkey hval
  unfold Oper.wp
  simp [execOp, hop, hm, hx, hv, hrun, Result.andThen]
  exact hK w' r1 r2
/-- what stands at the head of each round -/
structure CrashInv (w3 wr : World) (S : Nat → Prop) (q mb : Nat) (fv : Value) (L : List Fl) (d : Dk) (pb Z j : Nat) (ps : List Int) : Prop where
  pre : CrashPre w3 wr S q mb fv L d pb Z (crashTo (d.files.take j) ps).1
  picks : PicksAt wr pb Z (crashTo (d.files.take j) ps).2
  ok : PicksOk (crashTo (d.files.take j) ps).2
def CrashIs (w : World) (d : Dk) (ps : List Int) (e : Ending) (w' : World) : Prop :=
  (¬ AllGe ps ∧ e = .returned (.tuple #[.pointer none, .int .i64 2]) ∧ Below w.heap.size w w') ∨
  (AllGe ps ∧ ∃ q, e = .returned (.tuple #[.pointer (some ⟨q, 0, none⟩), .int .i64 0]) ∧ DiskAt w' (fun k => w.heap.size ≤ k ∧ k < w'.heap.size) q (d.crash ps) ∧ Below w.heap.size w w')
end Go.Proofs.Ytmkjejngnahpeaa
