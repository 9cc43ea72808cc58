/- The texts Pzd in one. -/
import Derived.Test.YtlgcoaeddeiegaaGreatV8
/- partlog: Append. -/
namespace Go.Proofs.YtlgcoaeddeiegaaGreat
open Go Go.RowKit
attribute [local go_sem] Oper.semAt_some

theorem sync_names (d : Dk) (s : List UInt8) : (d.sync s).2.files.map (·.name) = d.files.map (·.name) := by
  unfold Dk.sync
  split
  · rfl
  · split
    · rfl
    · show (d.files.map _).map _ = _
      rw [List.map_map]
      refine List.map_congr_left fun f _ => ?_
      show F0.name (if f.name = s then _ else f) = f.name
      split <;> rfl
theorem create_sorted {d : Dk} (s : List UInt8) (h : (d.files.map (·.name)).Pairwise (· < ·)) : ((d.create s).2.files.map (·.name)).Pairwise (· < ·) := by
  unfold Dk.create
  split
  · exact h
  · split
    · exact h
    · rename_i h2
      split
      · exact h
      · split
        · exact h
        · refine insF_sorted _ d.files h (fun g hg e => h2 ?_)
          unfold Dk.at
          cases hf : d.files.find? (fun f => f.name == s) with
          | some y => rfl
          | none =>
            have := List.find?_eq_none.1 hf g hg
            exact absurd (by simpa using e) this
theorem names_many {α : Type} [DecidableEq α] : ∀ {l l' : List α}, l.Nodup → (∀ x ∈ l, x ∈ l') → l.length ≤ l'.length
  | [], _, _, _ => Nat.zero_le _
  | a :: l, l', hn, hs => by
    rw [List.nodup_cons] at hn
    have ha : a ∈ l' := hs a (List.mem_cons_self ..)
    have := names_many (l' := l'.erase a) hn.2 (fun x hx => (List.mem_erase_of_ne (fun (e : x = a) => hn.1 (e ▸ hx))).2 (hs x (List.mem_cons_of_mem _ hx)))
    rw [List.length_erase_of_mem ha] at this
    have := List.length_pos_of_mem ha
    rw [List.length_cons]
    omega
theorem few_segs {w : World} {S : Nat → Prop} {q : Nat} {log : ByteArray} {g : Lg} {d : Dk} (hd : DiskAt w S q d) (hok : LgOk g) (hlog : loggedB log.data.toList = true) (hf : LgFitQ log g d) : g.segs.length ≤ 4096 := by
  have h1 : (g.segs.map fun s => sname log s.1).Nodup := by
    have := hok.rises
    rw [List.Nodup, List.pairwise_map] at *
    refine List.Pairwise.imp_of_mem (fun {a b} ha hb hab e => ?_) this
    have := sname_inj hlog (hok.chain a ha).2 (hok.chain b hb).2 e
    omega
  have h2 := names_many h1 (l' := d.files.map (·.name)) (fun x hx => by
    obtain ⟨s, hs, rfl⟩ := List.mem_map.1 hx
    obtain ⟨f, tl, hff, -⟩ := hf s hs
    have := hd.has hff
    rw [← this.1]
    exact List.mem_map_of_mem this.2.1)
  rw [List.length_map, List.length_map] at h2
  obtain ⟨mb, fv, L, hd⟩ := hd
  exact Nat.le_trans h2 hd.few
def Sg.to (a : Sg) (bs : List Bat) (sv : Value) (sp : List Sp) : Sg := ⟨a.bn, bs, a.s, a.x, sv, sp⟩
theorem LogR.lastTurn {w w' : World} {S T : Nat → Prop} {lp q : Nat} {log : ByteArray} {step : Nat} {G : List Sg} {a : Sg} {pv : Value} {bs' : List Bat} {sv' : Value} {sp' : List Sp} (h : LogR w T lp q log step (G ++ [a]) pv) (hap : ∀ k, S k → ¬ T k)
    (ho : Only (fun k => S k ∨ k = a.s ∨ k = a.x ∨ a.sv.ownBlock = some k) w w') (hsg : SgIs w' q log step (a.to bs' sv' sp')) (hsv : ∀ k, sv'.ownBlock = some k → a.sv.ownBlock = some k ∨ w.heap.size ≤ k) :
    LogR w' (fun k => T k ∨ sv'.ownBlock = some k) lp q log step (G ++ [a.to bs' sv' sp']) pv := by
  have hn := h.apart
  unfold logBlocks at hn
  have e1 : (G ++ [a]).flatMap Sg.blocks = G.flatMap Sg.blocks ++ a.blocks := by simp
  rw [e1, List.nodup_cons, List.nodup_append, List.nodup_append] at hn
  obtain ⟨n1, n2, ⟨n3, n4, n5⟩, n6⟩ := hn
  have hT : ∀ k, k = lp ∨ pv.ownBlock = some k ∨ k ∈ G.flatMap Sg.blocks ∨ k ∈ a.blocks → T k := fun k hk => h.foot k (by
    unfold logBlocks
    rw [e1]
    simp only [List.mem_cons, List.mem_append, Option.mem_toList]
    exact hk)
  have habl : ∀ k, k ∈ a.blocks ↔ k = a.s ∨ k = a.x ∨ a.sv.ownBlock = some k := fun k => by simp [Sg.blocks]
  have hXa : ∀ k, T k → (S k ∨ k = a.s ∨ k = a.x ∨ a.sv.ownBlock = some k) → k ∈ a.blocks := fun k hk hx => by
    rcases hx with hx | hx
    · exact absurd hk (hap k hx)
    · exact (habl k).2 hx
  have hbl' : ∀ k, k ∈ Sg.blocks (a.to bs' sv' sp') ↔ k = a.s ∨ k = a.x ∨ sv'.ownBlock = some k := fun k => by simp [Sg.blocks, Sg.to]
  have hnew : ∀ k, k ∈ Sg.blocks (a.to bs' sv' sp') → k ∈ a.blocks ∨ w.heap.size ≤ k := fun k hk => by
    rcases (hbl' k).1 hk with e | e | e
    · exact .inl ((habl k).2 (.inl e))
    · exact .inl ((habl k).2 (.inr (.inl e)))
    · rcases hsv k e with e2 | e2
      · exact .inl ((habl k).2 (.inr (.inr e2)))
      · exact .inr e2
  have hlow := h.low
  have hptr : (G ++ [a.to bs' sv' sp']).map Sg.ptr = (G ++ [a]).map Sg.ptr := by
    rw [List.map_append, List.map_append]
    rfl
  have hlen : (G ++ [a.to bs' sv' sp']).length = (G ++ [a]).length := by rw [List.length_append, List.length_append]; rfl
  have e2 : (G ++ [a.to bs' sv' sp']).flatMap Sg.blocks = G.flatMap Sg.blocks ++ Sg.blocks (a.to bs' sv' sp') := by simp
  refine ⟨?_, fun b hb => ?_, ?_, fun k hk => ?_, fun k hk => ?_, by rw [hlen]; exact h.few⟩
  · rw [hptr, hlen]
    refine h.row.kept (fun k hk => ho.block k (h.row.lt k hk) (fun e => ?_))
    have hm := hXa k (hT k (.inr (.inl hk))) e
    exact n6 k (by simp [hk]) k (List.mem_append_right _ hm) rfl
  · rcases List.mem_append.1 hb with hb | hb
    · refine (h.each b (List.mem_append_left _ hb)).kept (fun k hk => ?_)
      have hm : k ∈ G.flatMap Sg.blocks := LogR.seg_mem hb hk
      have hTk := hT k (.inr (.inr (.inl hm)))
      exact ho.block k (hlow k hTk) (fun e => n5 k hm k (hXa k hTk e) rfl)
    · rw [List.mem_singleton] at hb
      subst hb
      exact hsg
  · unfold logBlocks
    rw [e2, List.nodup_cons, List.nodup_append, List.nodup_append]
    refine ⟨fun hm => ?_, n2, ⟨n3, ?_, fun x hx y hy e => ?_⟩, fun x hx y hy e => ?_⟩
    · rcases List.mem_append.1 hm with hm | hm
      · exact n1 (List.mem_append_left _ hm)
      · rcases List.mem_append.1 hm with hm | hm
        · exact n1 (List.mem_append_right _ (List.mem_append_left _ hm))
        · rcases hnew lp hm with e | e
          · exact n1 (List.mem_append_right _ (List.mem_append_right _ e))
          · have := hlow lp (hT lp (.inl rfl)); omega
    · have hx : ∀ k, sv'.ownBlock = some k → k ≠ a.s ∧ k ≠ a.x := hsg.sv
      have hsx := hsg.sx
      show (a.s :: a.x :: sv'.ownBlock.toList).Nodup
      rw [List.nodup_cons, List.nodup_cons]
      refine ⟨fun hm => ?_, fun hm => ?_, ?_⟩
      · rcases List.mem_cons.1 hm with e | e
        · exact hsx e
        · exact (hx a.s (by simpa using e)).1 rfl
      · exact (hx a.x (by simpa using hm)).2 rfl
      · cases sv'.ownBlock <;> simp
    · subst e
      rcases hnew x hy with e | e
      · exact n5 x hx x e rfl
      · have := hlow x (hT x (.inr (.inr (.inl hx)))); omega
    · subst e
      have hx' : pv.ownBlock = some x := by simpa using hx
      rcases List.mem_append.1 hy with hy | hy
      · exact n6 x hx x (List.mem_append_left _ hy) rfl
      · rcases hnew x hy with e | e
        · exact n6 x hx x (List.mem_append_right _ e) rfl
        · have := hlow x (hT x (.inr (.inl hx'))); omega
  · unfold logBlocks at hk
    rw [e2] at hk
    simp only [List.mem_cons, List.mem_append, Option.mem_toList] at hk
    rcases hk with hk | hk | hk | hk
    · exact .inl (hT k (.inl hk))
    · exact .inl (hT k (.inr (.inl hk)))
    · exact .inl (hT k (.inr (.inr (.inl hk))))
    · rcases (hbl' k).1 hk with e | e | e
      · exact .inl (hT k (.inr (.inr (.inr ((habl k).2 (.inl e))))))
      · exact .inl (hT k (.inr (.inr (.inr ((habl k).2 (.inr (.inl e)))))))
      · exact .inr e
  · rcases hk with hk | hk
    · exact Nat.lt_of_lt_of_le (hlow k hk) ho.size
    · exact hsg.idx.row.lt k hk
theorem LgOk.fin_le {g : Lg} (h : LgOk g) : g.fin ≤ 9007199254740993 := by
  obtain ⟨h1, h2⟩ := h.chain (g.lb, g.lbs) (by unfold Lg.segs; simp)
  dsimp only at h1 h2
  unfold Lg.fin
  rcases List.eq_nil_or_concat g.lbs with e | ⟨bs, b, e⟩
  · rw [e]
    show g.lb + 0 ≤ _
    omega
  · rw [e, List.concat_eq_append] at h1 ⊢
    have hb := h1.base bs.length (by simp)
    have hg := h1.good b (by simp)
    have hh := hg.high
    rw [List.getElem_append_right (Nat.le_refl _), List.take_append_of_le_length (Nat.le_refl _), List.take_length] at hb
    simp only [Nat.sub_self, List.getElem_cons_zero] at hb
    rw [cntT_append]
    have e2 : cntT [b] = b.2.length := by simp [cntT]
    omega
theorem fails_b {w0 w3 W : World} {S T : Nat → Prop} {lp q : Nat} {log : ByteArray} {roll step : Nat} {g1 : Lg} {d1 : Dk} {b : Nat} {er : Int} {fn : Func} {tmps : Array Value} {R : Ending → World → Prop} (hne : er ≠ 0) (h0 : Below w0.heap.size w0 w3) (hS : ∀ k, S k → k < w0.heap.size) (hT : ∀ k, T k → k < w0.heap.size)
    (ht : LogTurn w3 S T lp q log roll step g1 d1 W) (hb0 : w0.heap.size ≤ b) (hb3 : b < w3.heap.size) (hbox : W.heap[b]? = some (.cells #[.int .i64 0] 28 (0, 0)))
    (hR : ∀ w', w'.heap[b]? = some (.cells #[.int .i64 er] 28 (0, 0)) → LogTurn w0 S T lp q log roll step (g1.dies er) d1 w' → ∃ v, (results fn tmps).run Tryz.prog w' = .ok v w' ∧ R (.returned v) w') :
    Leaves Tryz.prog fn tmps R [{ target := .fn (.func 62) #[], args := #[.pointer (some ⟨b, 0, none⟩)] }, { target := .fn (.func 73) #[], args := #[.pointer (some ⟨lp, 0, none⟩), .pointer (some ⟨b, 0, none⟩)] }] (.panicking [{ v := stopV er, recovered := false }]) W := by
  obtain ⟨S', T', hS', hT', ⟨hd, ⟨G, a, pv, hm⟩, hap⟩, ho⟩ := ht
  have hbS : ¬ S' b := fun hk => by
    rcases hS' b hk with e | e
    · have := hS b e; omega
    · have := e.1; omega
  have hbT : ¬ T' b := fun hk => by
    rcases hT' b hk with e | e
    · have := hT b e; omega
    · have := e.1; omega
  have hlb : lp ≠ b := fun e => hbT (e ▸ hm.rest.lp_mem)
  refine leaves_cons (f := 62) (args := #[.pointer (some ⟨b, 0, none⟩)]) (by simp) (by simp [go_sem]) ?_
  refine (caughtStop_b hbox).mono ?_
  rintro e u' w5 ⟨rfl, rfl, hb5, ho5⟩
  have hm5 := hm.only ho5 (fun k hT e => hbT (e ▸ hT))
  show Leaves Tryz.prog fn tmps R [_] .returning w5
  refine leaves_cons (f := 73) (args := #[.pointer (some ⟨lp, 0, none⟩), .pointer (some ⟨b, 0, none⟩)]) (by simp) (by simp [go_sem]) ?_
  refine (diesNo_b hne hb5 hm5.head rfl).mono ?_
  rintro e u' w6 ⟨rfl, rfl, hw6⟩
  show Leaves Tryz.prog fn tmps R [] .returning w6
  have e1 : g1.dies er = { g1 with dead := true } := by unfold Lg.dies; rw [if_neg hne]
  have hb6 : w6.heap[b]? = some (.cells #[.int .i64 er] 28 (0, 0)) := by
    rw [hw6]
    exact (Below.heap_setCell _ _ _ _ (fun e => hlb e.symm)).trans hb5
  refine hR w6 hb6 ?_
  rw [e1]
  have hh6 : logHead q lp log roll step { g1 with dead := true } (G.length + 1) pv w6 := by
    rw [hw6]
    exact heap_setCell_here _ hm5.head
  have ho56 : Only (fun k => k = lp ∨ k = b) W w6 := by
    rw [hw6]
    exact (ho5.mono (fun _ _ e => .inr e)).trans (only_setCell (fun k => k = lp ∨ k = b) _ lp 4 _ (.inl rfl)) (fun _ _ e => e)
  have up : ∀ (X X' : Nat → Prop), (∀ k, X' k → Wid X w3 W k) → ∀ k, X' k → Wid X w0 W k := fun X X' h k hk => by
    rcases h k hk with e | e
    · exact .inl e
    · exact .inr ⟨Nat.le_trans h0.size e.1, e.2⟩
  exact hm.turned (up T T' hT') hd (up S S' hS') hap ((Only.of_below h0 (Nat.le_refl _) _).trans ho (fun _ _ h => h)) ho56 (fun k hk => by
    rcases hk with hk | hk
    · exact .inl hk
    · exact .inr ⟨by omega, hk ▸ hbS, hk ▸ hbT⟩) hh6 rfl rfl rfl (by have := hm.ok.died er; rw [e1] at this; exact this)
def AppV (w : World) (S : Nat → Prop) (s x q : Nat) (nm : ByteArray) (bn step : Nat) (sv : Value) (bs : List Bat) (d : Dk) (b : Bat) (w' : World) : Prop :=
  ((d.append nm.data.toList (batchT b.1 b.2)).1 ≠ 0 ∧ DiskAt w' (Wid S w w') q (d.append nm.data.toList (batchT b.1 b.2)).2 ∧ Only S w w') ∨
  ((d.append nm.data.toList (batchT b.1 b.2)).1 = 0 ∧ ∃ S' sv' sp', (∀ k, S' k → Wid S w w' k) ∧ (∀ k, sv'.ownBlock = some k → sv.ownBlock = some k ∨ w.heap.size ≤ k) ∧ SegI w' S' s x q nm bn step sv' sp' (bs ++ [b]) (d.append nm.data.toList (batchT b.1 b.2)).2 ∧
    Only (fun k => S k ∨ k = s ∨ k = x ∨ sv.ownBlock = some k) w w')
theorem AppS.val {w w' : World} {S : Nat → Prop} {s x q : Nat} {nm : ByteArray} {bn step : Nat} {sv : Value} {bs : List Bat} {d : Dk} {base : Int} {l : List Rc} {e : Ending} (h : AppS w S s x q nm bn step sv bs d base l e w') (h1 : putT base l = (batchT base l, 0)) (h2 : base = ((bn + cntT bs : Nat) : Int)) :
    e = .returned (.int .i64 (d.append nm.data.toList (batchT base l)).1) ∧ AppV w S s x q nm bn step sv bs d (base, l) w' := by
  rcases h with ⟨g0, -, -⟩ | ⟨-, g0, -, -⟩ | ⟨-, -, g0, g1, g2, g3⟩ | ⟨-, -, g0, g1, g2⟩
  · rw [h1] at g0
    exact absurd rfl g0
  · exact absurd h2 g0
  · exact ⟨g1, .inl ⟨g0, g2, g3⟩⟩
  · exact ⟨by rw [g0]; exact g1, .inr ⟨g0, g2⟩⟩
theorem AppV.only {w w' : World} {S : Nat → Prop} {s x q : Nat} {nm : ByteArray} {bn step : Nat} {sv : Value} {bs : List Bat} {d : Dk} {b : Bat} (h : AppV w S s x q nm bn step sv bs d b w') : Only (fun k => S k ∨ k = s ∨ k = x ∨ sv.ownBlock = some k) w w' := by
  rcases h with ⟨-, -, h⟩ | ⟨-, S', sv', sp', -, -, -, h⟩
  · exact h.mono (fun _ _ e => .inl e)
  · exact h
theorem logAdd_end {w0 w4 wa wb wc : World} {S T S1 T1 S2 : Nat → Prop} {lp q b : Nat} {log : ByteArray} {roll step : Nat} {g1 : Lg} {d1 d2 : Dk} {G1 : List Sg} {a1 : Sg} {pv1 sv' : Value} {sp' : List Sp} {bt : Bat} (hd1 : LogD w4 S1 T1 lp q log roll step g1 d1) (hm1 : LogM w4 T1 lp q log roll step g1 G1 a1 pv1)
    (hS1 : ∀ k, S1 k → Wid S w0 w4 k) (hT1 : ∀ k, T1 k → Wid T w0 w4 k) (ho0 : Only (fun k => S k ∨ T k) w0 w4) (hba : Below w4.heap.size w4 wa) (hS2 : ∀ k, S2 k → Wid S1 wa wb k) (hsv : ∀ k, sv'.ownBlock = some k → a1.sv.ownBlock = some k ∨ wa.heap.size ≤ k)
    (hseg : SegI wb S2 a1.s a1.x q (segName log a1.bn) a1.bn step sv' sp' (a1.bs ++ [bt]) d2) (ho : Only (fun k => S1 k ∨ k = a1.s ∨ k = a1.x ∨ a1.sv.ownBlock = some k) wa wb) (hoc : Only (fun k => k = lp ∨ k = b) wb wc) (hb0 : w0.heap.size ≤ b) (hbS : ¬ S1 b) (hbT : ¬ T1 b) (hb4 : b < w4.heap.size)
    (hok : LgOk { g1 with lbs := g1.lbs ++ [bt] }) (hh : logHead q lp log roll step { g1 with lbs := g1.lbs ++ [bt] } (G1.length + 1) pv1 wc) :
    LogTurn w0 S T lp q log roll step { g1 with lbs := g1.lbs ++ [bt] } d2 wc := by
  have hra := (hm1.later hba).rest
  have hlast := hra.lastTurn hd1.apart ho (bs' := a1.bs ++ [bt]) (sv' := sv') (sp' := sp') hseg.toSegM hsv
  have z1 := hba.size
  have z2 := ho.size
  have z3 := hoc.size
  have z0 := ho0.size
  have hlpT := hm1.rest.lp_mem
  have hinT : ∀ k, (k = a1.s ∨ k = a1.x ∨ a1.sv.ownBlock = some k) → T1 k := fun k hk => hm1.rest.foot k (LogR.seg_in (b := a1) (by simp) hk)
  have hT2b : ∀ k, (T1 k ∨ sv'.ownBlock = some k) → k ≠ b := fun k hk e => by
    subst e
    rcases hk with hk | hk
    · exact hbT hk
    · rcases hsv k hk with e | e
      · exact hbT (hinT k (.inr (.inr e)))
      · omega
  have hap2 : ∀ k, S2 k → ¬ (T1 k ∨ sv'.ownBlock = some k) := fun k hk hT => by
    rcases hT with hT | hT
    · rcases hS2 k hk with e | e
      · exact hd1.apart k e hT
      · have := hm1.low k hT; have := e.1; omega
    · exact hseg.vS k hT hk
  have hS2lp : ∀ k, S2 k → k ≠ lp ∧ k ≠ b := fun k hk => by
    refine ⟨fun e => hap2 k hk (.inl (e ▸ hlpT)), fun e => ?_⟩
    rcases hS2 k hk with e2 | e2
    · exact hbS (e ▸ e2)
    · have := e2.1; omega
  have hlen : (G1.length + 1) = (G1.length + 1) := rfl
  refine ⟨S2, fun k => T1 k ∨ sv'.ownBlock = some k, fun k hk => ?_, fun k hk => ?_, ⟨hseg.disk.onlyS hoc (fun k hk e => ?_), ⟨G1, a1.to (a1.bs ++ [bt]) sv' sp', pv1, { hm1 with head := hh, rest := hlast.only hoc (fun k hT hne e => ?_), ini := hm1.ini, lb := hm1.lb, lbs := ?_, ok := hok }⟩, hap2⟩, ?_⟩
  · rcases hS2 k hk with e | e
    · rcases hS1 k e with e | e
      · exact .inl e
      · exact .inr ⟨e.1, by omega⟩
    · exact .inr ⟨by omega, by omega⟩
  · rcases hk with hk | hk
    · rcases hT1 k hk with e | e
      · exact .inl e
      · exact .inr ⟨e.1, by omega⟩
    · rcases hsv k hk with e | e
      · rcases hT1 k (hinT k (.inr (.inr e))) with e | e
        · exact .inl e
        · exact .inr ⟨e.1, by omega⟩
      · have := hlast.low k (.inr hk)
        exact .inr ⟨by omega, by omega⟩
  · rcases e with e | e
    · exact (hS2lp k hk).1 e
    · exact (hS2lp k hk).2 e
  · rcases e with e | e
    · exact hne e
    · exact hT2b k hT e
  · show g1.lbs ++ [bt] = a1.bs ++ [bt]
    rw [hm1.lbs]
  · have hoab : Only (fun k => S1 k ∨ T1 k) w4 wb := (Only.of_below hba (Nat.le_refl _) _).trans ho (fun k _ e => by
      rcases e with e | e
      · exact .inl e
      · exact .inr (hinT k e))
    have h0b : Only (fun k => S k ∨ T k) w0 wb := ho0.trans hoab (fun k hk e => by
      rcases e with e | e
      · rcases hS1 k e with e | e
        · exact .inl e
        · have := e.1; omega
      · rcases hT1 k e with e | e
        · exact .inr e
        · have := e.1; omega)
    refine h0b.trans hoc (fun k hk e => ?_)
    rcases e with e | e
    · rcases hT1 lp hlpT with e2 | e2
      · exact .inr (e ▸ e2)
      · have := e2.1; omega
    · omega
end Go.Proofs.YtlgcoaeddeiegaaGreat
