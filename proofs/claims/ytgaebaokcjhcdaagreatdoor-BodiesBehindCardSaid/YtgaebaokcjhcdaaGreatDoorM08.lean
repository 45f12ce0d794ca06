/- The builder: what memory holds for it. -/
import Derived.Test.YtgaebaokcjhcdaaGreatDoorM07
import Derived.Lib.LaidTab
import Derived.Lib.Fields

set_option linter.unusedVariables false
set_option linter.unusedSimpArgs false
namespace Go.Proofs.YtgaebaokcjhcdaaGreatDoor
open Go.RowKit Lz

/-- The builder's error. -/
def errV (e : Int) : Value := if e = 0 then .nilIface else .iface 73 (.int .i64 e)
def bCells (a st l : Nat) (vm vk : Value) (s : St) : Array Value :=
  #[.pointer (some ⟨a, 0, none⟩), .pointer (some ⟨st, 0, none⟩), .pointer (some ⟨l, 0, none⟩), .int .i64 s.mode, .int .i64 s.back, vm, .int .i64 s.head, .int .i64 s.form, .bool s.quirks, .bool s.foster, .bool s.skip, .string s.pending, vk, errV s.err]
def n_heads : List Str := [n_h1, n_h2, n_h3, n_h4, n_h5, n_h6]
/-- What further package-level variables hold when the call begins. -/
structure Laid0 (W : World) : Prop where
  spaces : Lib.TabIs Tryz.prog W "strings.asciiSpace" .u8 Lib.asciiSpaceTab
  heads : ∃ g o cap, W.cell? ⟨0, 0, none⟩ = some (.slice (some ⟨g, o, none⟩) 6 cap) ∧ ∀ i, i < 6 → W.cell? ⟨g, o + i, none⟩ = some (.string (n_heads.getD i n_empty))
  size : 6 ≤ W.heap.size
/-- What lay there when the call began lies as it lay; nothing of G is of it. -/
def Old (w : World) (G : Nat → Prop) : Prop := ∃ W0, Laid0 W0 ∧ W0.heap.size ≤ w.heap.size ∧ (∀ k, k < W0.heap.size → w.heap[k]? = W0.heap[k]?) ∧ ∀ k, G k → W0.heap.size ≤ k
theorem Old.step {w w' : World} {G G' : Nat → Prop} (h : Old w G) (hs : w.heap.size ≤ w'.heap.size) (hk : ∀ k, k < w.heap.size → ¬ G k → w'.heap[k]? = w.heap[k]?) (hG : ∀ k, G' k → G k ∨ w.heap.size ≤ k) : Old w' G' := by
  obtain ⟨W0, hl, h1, h2, h3⟩ := h
  refine ⟨W0, hl, by omega, fun k hk0 => (hk k (by omega) (fun hg => ?_)).trans (h2 k hk0), fun k hg => ?_⟩
  · have := h3 k hg; omega
  · rcases hG k hg with h | h
    · exact h3 k h
    · omega
structure BP (w : World) (b a st l : Nat) (Fa Fs Fl Fb : Nat → Prop) (vm vk : Value) (s : St) : Prop where
  blk : w.heap[b]? = some (.cells (bCells a st l vm vk s) 34 (0, 0))
  Fbb : Fb b
  modes : IntRow w Fb vm s.modes
  arena : ArenaRep w Fa a s.nodes
  stack : StackRep w Fs st a s.stk
  list : ListRep w Fl l a s.fmts
  blt : ∀ k, Fb k → k < w.heap.size
  as_ : ∀ k, Fa k → ¬ Fs k
  al : ∀ k, Fa k → ¬ Fl k
  ab : ∀ k, Fa k → ¬ Fb k
  sl : ∀ k, Fs k → ¬ Fl k
  sb : ∀ k, Fs k → ¬ Fb k
  lb : ∀ k, Fl k → ¬ Fb k
  glob : Glob w
  low : ∀ k, Fa k ∨ Fs k ∨ Fl k ∨ Fb k → 6 ≤ k
  old : Old w fun k => Fa k ∨ Fs k ∨ Fl k ∨ Fb k
/-- The whole: F holds what may turn. -/
def BR (w : World) (F : Nat → Prop) (b a st l : Nat) (s : St) : Prop := ∃ Fa Fs Fl Fb vm vk, BP w b a st l Fa Fs Fl Fb vm vk s ∧ ∀ k, Fa k ∨ Fs k ∨ Fl k ∨ Fb k → F k

namespace BP
variable {w w' : World} {b a st l : Nat} {Fa Fs Fl Fb : Nat → Prop} {vm vk : Value} {s : St}
theorem bel (h : BP w b a st l Fa Fs Fl Fb vm vk s) (hb : Bel w w') : BP w' b a st l Fa Fs Fl Fb vm vk s :=
  { h with
    blk := (hb.block b (h.blt b h.Fbb)).trans h.blk
    modes := h.modes.bel hb, arena := h.arena.bel hb, stack := h.stack.bel hb, list := h.list.bel hb
    blt := fun k hk => Nat.lt_of_lt_of_le (h.blt k hk) hb.size, glob := h.glob.bel hb, old := h.old.step hb.size (fun k hk _ => hb.block k hk) (fun k hk => .inl hk) }
theorem arenaMut (h : BP w b a st l Fa Fs Fl Fb vm vk s) {ns : List Nd} (hm : Mut Fa w w') (hr : ArenaRep w' (grow Fa w w') a ns) : BP w' b a st l (grow Fa w w') Fs Fl Fb vm vk { s with nodes := ns } := by
  have k1 : ∀ k, Fs k → w'.heap[k]? = w.heap[k]? := fun k hk => hm.block k (h.stack.lt k hk) (fun hf => h.as_ k hf hk)
  have k2 : ∀ k, Fl k → w'.heap[k]? = w.heap[k]? := fun k hk => hm.block k (h.list.lt k hk) (fun hf => h.al k hf hk)
  have k3 : ∀ k, Fb k → w'.heap[k]? = w.heap[k]? := fun k hk => hm.block k (h.blt k hk) (fun hf => h.ab k hf hk)
  have hs := hm.size
  refine { h with blk := (k3 b h.Fbb).trans h.blk, modes := h.modes.keep (fun k hk _ => k3 k hk) (fun _ h => h), arena := hr, stack := h.stack.keep k1 (fun _ h => h) (fun k hk => Nat.lt_of_lt_of_le (h.stack.lt k hk) hs), list := h.list.keep k2 (fun _ h => h) (fun k hk => Nat.lt_of_lt_of_le (h.list.lt k hk) hs), blt := fun k hk => Nat.lt_of_lt_of_le (h.blt k hk) hs, as_ := ?_, al := ?_, ab := ?_, glob := h.glob.mut hm (fun k hk => h.low k (.inl hk)), low := ?_, old := h.old.step hm.size (fun k hk hG => hm.block k hk (fun hf => hG (.inl hf))) (by rintro k ((hk | hk) | hk | hk | hk) <;> simp [hk]) }
  · rintro k (hk | hk) h2
    · exact h.as_ k hk h2
    · have := h.stack.lt k h2; omega
  · rintro k (hk | hk) h2
    · exact h.al k hk h2
    · have := h.list.lt k h2; omega
  · rintro k (hk | hk) h2
    · exact h.ab k hk h2
    · have := h.blt k h2; omega
  · rintro k ((hk | hk) | hk | hk | hk)
    · exact h.low k (.inl hk)
    · have := h.glob.size; omega
    · exact h.low k (.inr (.inl hk))
    · exact h.low k (.inr (.inr (.inl hk)))
    · exact h.low k (.inr (.inr (.inr hk)))
theorem stackMut (h : BP w b a st l Fa Fs Fl Fb vm vk s) {x : List OpEl} (hm : Mut Fs w w') (hr : StackRep w' (grow Fs w w') st a x) : BP w' b a st l Fa (grow Fs w w') Fl Fb vm vk { s with stk := x } := by
  have k1 : ∀ k, Fa k → w'.heap[k]? = w.heap[k]? := fun k hk => hm.block k (h.arena.lt k hk) (fun hf => h.as_ k hk hf)
  have k2 : ∀ k, Fl k → w'.heap[k]? = w.heap[k]? := fun k hk => hm.block k (h.list.lt k hk) (fun hf => h.sl k hf hk)
  have k3 : ∀ k, Fb k → w'.heap[k]? = w.heap[k]? := fun k hk => hm.block k (h.blt k hk) (fun hf => h.sb k hf hk)
  have hs := hm.size
  refine { h with blk := (k3 b h.Fbb).trans h.blk, modes := h.modes.keep (fun k hk _ => k3 k hk) (fun _ h => h), stack := hr, arena := h.arena.keep k1 (fun _ h => h) (fun k hk => Nat.lt_of_lt_of_le (h.arena.lt k hk) hs), list := h.list.keep k2 (fun _ h => h) (fun k hk => Nat.lt_of_lt_of_le (h.list.lt k hk) hs), blt := fun k hk => Nat.lt_of_lt_of_le (h.blt k hk) hs, as_ := ?_, sl := ?_, sb := ?_, glob := h.glob.mut hm (fun k hk => h.low k (.inr (.inl hk))), low := ?_, old := h.old.step hm.size (fun k hk hG => hm.block k hk (fun hf => hG (.inr (.inl hf)))) (by rintro k (hk | (hk | hk) | hk | hk) <;> simp [hk]) }
  · rintro k h2 (hk | hk)
    · exact h.as_ k h2 hk
    · have := h.arena.lt k h2; omega
  · rintro k (hk | hk) h2
    · exact h.sl k hk h2
    · have := h.list.lt k h2; omega
  · rintro k (hk | hk) h2
    · exact h.sb k hk h2
    · have := h.blt k h2; omega
  · rintro k (hk | (hk | hk) | hk | hk)
    · exact h.low k (.inl hk)
    · exact h.low k (.inr (.inl hk))
    · have := h.glob.size; omega
    · exact h.low k (.inr (.inr (.inl hk)))
    · exact h.low k (.inr (.inr (.inr hk)))
theorem listMut (h : BP w b a st l Fa Fs Fl Fb vm vk s) {x : List Int} (hm : Mut Fl w w') (hr : ListRep w' (grow Fl w w') l a x) : BP w' b a st l Fa Fs (grow Fl w w') Fb vm vk { s with fmts := x } := by
  have k1 : ∀ k, Fa k → w'.heap[k]? = w.heap[k]? := fun k hk => hm.block k (h.arena.lt k hk) (fun hf => h.al k hk hf)
  have k2 : ∀ k, Fs k → w'.heap[k]? = w.heap[k]? := fun k hk => hm.block k (h.stack.lt k hk) (fun hf => h.sl k hk hf)
  have k3 : ∀ k, Fb k → w'.heap[k]? = w.heap[k]? := fun k hk => hm.block k (h.blt k hk) (fun hf => h.lb k hf hk)
  have hs := hm.size
  refine { h with blk := (k3 b h.Fbb).trans h.blk, modes := h.modes.keep (fun k hk _ => k3 k hk) (fun _ h => h), list := hr, arena := h.arena.keep k1 (fun _ h => h) (fun k hk => Nat.lt_of_lt_of_le (h.arena.lt k hk) hs), stack := h.stack.keep k2 (fun _ h => h) (fun k hk => Nat.lt_of_lt_of_le (h.stack.lt k hk) hs), blt := fun k hk => Nat.lt_of_lt_of_le (h.blt k hk) hs, al := ?_, sl := ?_, lb := ?_, glob := h.glob.mut hm (fun k hk => h.low k (.inr (.inr (.inl hk)))), low := ?_, old := h.old.step hm.size (fun k hk hG => hm.block k hk (fun hf => hG (.inr (.inr (.inl hf))))) (by rintro k (hk | hk | (hk | hk) | hk) <;> simp [hk]) }
  · rintro k h2 (hk | hk)
    · exact h.al k h2 hk
    · have := h.arena.lt k h2; omega
  · rintro k h2 (hk | hk)
    · exact h.sl k h2 hk
    · have := h.stack.lt k h2; omega
  · rintro k (hk | hk) h2
    · exact h.lb k hk h2
    · have := h.blt k h2; omega
  · rintro k (hk | hk | (hk | hk) | hk)
    · exact h.low k (.inl hk)
    · exact h.low k (.inr (.inl hk))
    · exact h.low k (.inr (.inr (.inl hk)))
    · have := h.glob.size; omega
    · exact h.low k (.inr (.inr (.inr hk)))
theorem c (h : BP w b a st l Fa Fs Fl Fb vm vk s) (j : Nat) : w.cell? ⟨b, j, none⟩ = (bCells a st l vm vk s)[j]? := blk_cell h.blk j
theorem f (h : BP w b a st l Fa Fs Fl Fb vm vk s) (j : Nat) : w.frozen? ⟨b, j, none⟩ = false := blk_frozen h.blk j
end BP
end Go.Proofs.YtgaebaokcjhcdaaGreatDoor

/- The builder: getters, setters. -/
set_option linter.unusedVariables false
set_option linter.unusedSimpArgs false
namespace Go.Proofs.YtgaebaokcjhcdaaGreatDoor
open Go.RowKit Lz
variable {w w' : World} {F : Nat → Prop} {b a st l : Nat} {s : St}

namespace BR
theorem ofArena {Fa Fs Fl Fb : Nat → Prop} {vm vk : Value} (hp : BP w b a st l Fa Fs Fl Fb vm vk s) (hF : ∀ k, Fa k ∨ Fs k ∨ Fl k ∨ Fb k → F k) {ns : List Nd} (hm : Mut Fa w w') (hr : ArenaRep w' (grow Fa w w') a ns) :
    Mut F w w' ∧ BR w' (grow F w w') b a st l { s with nodes := ns } :=
  ⟨hm.mono fun k hk => hF k (.inl hk), _, _, _, _, _, _, hp.arenaMut hm hr, fun k hk => by
    rcases hk with (hk | hk) | hk | hk | hk
    · exact .inl (hF k (.inl hk))
    · exact .inr hk
    · exact .inl (hF k (.inr (.inl hk)))
    · exact .inl (hF k (.inr (.inr (.inl hk))))
    · exact .inl (hF k (.inr (.inr (.inr hk))))⟩
theorem ofStack {Fa Fs Fl Fb : Nat → Prop} {vm vk : Value} (hp : BP w b a st l Fa Fs Fl Fb vm vk s) (hF : ∀ k, Fa k ∨ Fs k ∨ Fl k ∨ Fb k → F k) {x : List OpEl} (hm : Mut Fs w w') (hr : StackRep w' (grow Fs w w') st a x) :
    Mut F w w' ∧ BR w' (grow F w w') b a st l { s with stk := x } :=
  ⟨hm.mono fun k hk => hF k (.inr (.inl hk)), _, _, _, _, _, _, hp.stackMut hm hr, fun k hk => by
    rcases hk with hk | (hk | hk) | hk | hk
    · exact .inl (hF k (.inl hk))
    · exact .inl (hF k (.inr (.inl hk)))
    · exact .inr hk
    · exact .inl (hF k (.inr (.inr (.inl hk))))
    · exact .inl (hF k (.inr (.inr (.inr hk))))⟩
theorem ofList {Fa Fs Fl Fb : Nat → Prop} {vm vk : Value} (hp : BP w b a st l Fa Fs Fl Fb vm vk s) (hF : ∀ k, Fa k ∨ Fs k ∨ Fl k ∨ Fb k → F k) {x : List Int} (hm : Mut Fl w w') (hr : ListRep w' (grow Fl w w') l a x) :
    Mut F w w' ∧ BR w' (grow F w w') b a st l { s with fmts := x } :=
  ⟨hm.mono fun k hk => hF k (.inr (.inr (.inl hk))), _, _, _, _, _, _, hp.listMut hm hr, fun k hk => by
    rcases hk with hk | hk | (hk | hk) | hk
    · exact .inl (hF k (.inl hk))
    · exact .inl (hF k (.inr (.inl hk)))
    · exact .inl (hF k (.inr (.inr (.inl hk))))
    · exact .inr hk
    · exact .inl (hF k (.inr (.inr (.inr hk))))⟩
theorem ofBel (h : BR w F b a st l s) (hb : Bel w w') : Mut F w w' ∧ BR w' (grow F w w') b a st l s := by
  obtain ⟨Fa, Fs, Fl, Fb, vm, vk, hp, hF⟩ := h
  exact ⟨Mut.of_bel hb, Fa, Fs, Fl, Fb, vm, vk, hp.bel hb, fun k hk => .inl (hF k hk)⟩
theorem bel (h : BR w F b a st l s) (hb : Bel w w') : BR w' F b a st l s := by
  obtain ⟨Fa, Fs, Fl, Fb, vm, vk, hp, hF⟩ := h
  exact ⟨Fa, Fs, Fl, Fb, vm, vk, hp.bel hb, hF⟩
theorem refl (h : BR w F b a st l s) : BR w (grow F w w) b a st l s := (h.ofBel (Below.refl _ _)).2
/-- Two steps make one. -/
theorem trans {w1 w2 : World} {s1 s2 : St} (h1 : Mut F w w1) (h2 : Mut (grow F w w1) w1 w2 ∧ BR w2 (grow (grow F w w1) w1 w2) b a st l s2) : Mut F w w2 ∧ BR w2 (grow F w w2) b a st l s2 :=
  ⟨h1.trans h2.1, by rw [grow_trans h1.size h2.1.size] at h2; exact h2.2⟩
/-- A cell of the builder's own block is written. -/
theorem setC {Fa Fs Fl Fb : Nat → Prop} {vm vk : Value} (hp : BP w b a st l Fa Fs Fl Fb vm vk s) (hF : ∀ k, Fa k ∨ Fs k ∨ Fl k ∨ Fb k → F k) {W : World} (hW : W.heap = w.heap) (hos : W.os = w.os) (ht : W.tape = w.tape) (ho : W.output = w.output) (j : Nat) (u : Value) {s' : St} {vk' : Value} (hc : (bCells a st l vm vk s).setIfInBounds j u = bCells a st l vm vk' s') (h1 : s'.nodes = s.nodes) (h2 : s'.stk = s.stk) (h3 : s'.fmts = s.fmts) (h4 : s'.modes = s.modes) :
    Mut F w (W.setCell ⟨b, j, none⟩ u) ∧ BR (W.setCell ⟨b, j, none⟩ u) (grow F w (W.setCell ⟨b, j, none⟩ u)) b a st l s' := by
  have hset : ∀ k, k ≠ b → (W.setCell ⟨b, j, none⟩ u).heap[k]? = w.heap[k]? := fun k hk => by rw [Below.heap_setCell _ _ _ _ hk, hW]
  have hsz : (W.setCell ⟨b, j, none⟩ u).heap.size = w.heap.size := by simp [hW]
  have hm : Mut F w (W.setCell ⟨b, j, none⟩ u) := Mut.setCell (a := w) (b := W) ⟨hos, ht, ho, by rw [hW]; exact Nat.le_refl _, fun k _ _ => by rw [hW]⟩ (.inl (hF b (.inr (.inr (.inr hp.Fbb))))) u
  have hb : W.heap[b]? = some (.cells (bCells a st l vm vk s) 34 (0, 0)) := by rw [hW]; exact hp.blk
  refine ⟨hm, Fa, Fs, Fl, Fb, vm, vk', ?_, fun k hk => .inl (hF k hk)⟩
  have na : ∀ k, Fa k → k ≠ b := fun k hk e => hp.ab k hk (by rw [e]; exact hp.Fbb)
  have nst : ∀ k, Fs k → k ≠ b := fun k hk e => hp.sb k hk (by rw [e]; exact hp.Fbb)
  have nl : ∀ k, Fl k → k ≠ b := fun k hk e => hp.lb k hk (by rw [e]; exact hp.Fbb)
  refine { hp with blk := ?_, modes := ?_, arena := ?_, stack := ?_, list := ?_, blt := fun k hk => by rw [hsz]; exact hp.blt k hk, glob := ?_, old := hp.old.step (by rw [hsz]; exact Nat.le_refl _) (fun k hk hG => hset k (fun e => hG (.inr (.inr (.inr (by rw [e]; exact hp.Fbb)))))) (fun k hk => .inl hk) }
  · rw [heap_setCell_same _ _ _ _ _ _ hb, hc]
  · rw [h4]
    exact hp.modes.keepT (fun k cs _ hk => hset k (blk_ne hk hp.blk (by decide))) (fun _ h => h)
  · rw [h1]; exact hp.arena.keep (fun k hk => hset k (na k hk)) (fun _ h => h) (fun k hk => by rw [hsz]; exact hp.arena.lt k hk)
  · rw [h2]; exact hp.stack.keep (fun k hk => hset k (nst k hk)) (fun _ h => h) (fun k hk => by rw [hsz]; exact hp.stack.lt k hk)
  · rw [h3]; exact hp.list.keep (fun k hk => hset k (nl k hk)) (fun _ h => h) (fun k hk => by rw [hsz]; exact hp.list.lt k hk)
  · refine hp.glob.keep (by rw [hsz]; exact Nat.le_refl _) (fun k hk => hset k (fun e => ?_))
    have := hp.low b (.inr (.inr (.inr hp.Fbb)))
    omega
end BR

theorem bNone_c (h : BR w F b a st l s) :
    Calls Tryz.prog 44 #[.pointer (some ⟨b, 0, none⟩)] w fun e w' => e = .returned (.bool false) ∧ w = w' := by
  obtain ⟨Fa, Fs, Fl, Fb, vm, vk, hp, hF⟩ := h
  have c0 : w.cell? ⟨b, 0, none⟩ = some (.pointer (some ⟨a, 0, none⟩)) := hp.c 0
  clear hp
  go_enter Tryz.func44, Tryz.ntmps44
  go_wp2
  go_ret
  exact ⟨rfl, rfl⟩
theorem bArena_c (h : BR w F b a st l s) :
    Calls Tryz.prog 17 #[.pointer (some ⟨b, 0, none⟩)] w fun e w' => e = .returned (.pointer (some ⟨a, 0, none⟩)) ∧ w = w' := by
  have h' := h
  obtain ⟨Fa, Fs, Fl, Fb, vm, vk, hp, hF⟩ := h
  have c0 : w.cell? ⟨b, 0, none⟩ = some (.pointer (some ⟨a, 0, none⟩)) := hp.c 0
  clear hp
  go_enter Tryz.func17, Tryz.ntmps17
  go_wp2_with (go_at_call 44; refine (bNone_c h').mono ?_; rintro e w' ⟨rfl, rfl⟩)
  go_ret
  exact ⟨rfl, rfl⟩
theorem bStack_c (h : BR w F b a st l s) :
    Calls Tryz.prog 19 #[.pointer (some ⟨b, 0, none⟩)] w fun e w' => e = .returned (.pointer (some ⟨st, 0, none⟩)) ∧ w = w' := by
  have h' := h
  obtain ⟨Fa, Fs, Fl, Fb, vm, vk, hp, hF⟩ := h
  have c0 : w.cell? ⟨b, 1, none⟩ = some (.pointer (some ⟨st, 0, none⟩)) := hp.c 1
  clear hp
  go_enter Tryz.func19, Tryz.ntmps19
  go_wp2_with (go_at_call 44; refine (bNone_c h').mono ?_; rintro e w' ⟨rfl, rfl⟩)
  go_ret
  exact ⟨rfl, rfl⟩
theorem bFormats_c (h : BR w F b a st l s) :
    Calls Tryz.prog 132 #[.pointer (some ⟨b, 0, none⟩)] w fun e w' => e = .returned (.pointer (some ⟨l, 0, none⟩)) ∧ w = w' := by
  have h' := h
  obtain ⟨Fa, Fs, Fl, Fb, vm, vk, hp, hF⟩ := h
  have c0 : w.cell? ⟨b, 2, none⟩ = some (.pointer (some ⟨l, 0, none⟩)) := hp.c 2
  clear hp
  go_enter Tryz.func132, Tryz.ntmps132
  go_wp2_with (go_at_call 44; refine (bNone_c h').mono ?_; rintro e w' ⟨rfl, rfl⟩)
  go_ret
  exact ⟨rfl, rfl⟩
theorem bMode_c (h : BR w F b a st l s) :
    Calls Tryz.prog 22 #[.pointer (some ⟨b, 0, none⟩)] w fun e w' => e = .returned (.int .i64 s.mode) ∧ w = w' := by
  have h' := h
  obtain ⟨Fa, Fs, Fl, Fb, vm, vk, hp, hF⟩ := h
  have c0 : w.cell? ⟨b, 3, none⟩ = some (.int .i64 s.mode) := hp.c 3
  clear hp
  go_enter Tryz.func22, Tryz.ntmps22
  go_wp2_with (go_at_call 44; refine (bNone_c h').mono ?_; rintro e w' ⟨rfl, rfl⟩)
  go_ret
  exact ⟨rfl, rfl⟩
theorem bSet_c (h : BR w F b a st l s) (m : Int) :
    Calls Tryz.prog 43 #[.pointer (some ⟨b, 0, none⟩), .int .i64 m] w fun e w' => e = .returned (.tuple #[]) ∧ Mut F w w' ∧ BR w' (grow F w w') b a st l { s with mode := m } := by
  have h' := h
  obtain ⟨Fa, Fs, Fl, Fb, vm, vk, hp, hF⟩ := h
  have c0 : w.cell? ⟨b, 3, none⟩ = some (.int .i64 s.mode) := hp.c 3
  have f0 := hp.f 3
  have HP := Lib.hid hp
  clear hp
  go_enter Tryz.func43, Tryz.ntmps43
  go_wp2_with (go_at_call 44; refine (bNone_c h').mono ?_; rintro e w' ⟨rfl, rfl⟩)
  go_end0
  exact ⟨rfl, BR.setC HP.out hF rfl rfl rfl rfl 3 (.int .i64 m) rfl rfl rfl rfl rfl⟩
end Go.Proofs.YtgaebaokcjhcdaaGreatDoor

/- The builder: SetHead, SetQuirks, html, Current, Is. -/
set_option linter.unusedVariables false
set_option linter.unusedSimpArgs false
namespace Go.Proofs.YtgaebaokcjhcdaaGreatDoor
open Go.RowKit Lz
variable {w w' : World} {F : Nat → Prop} {b a st l : Nat} {s : St}

theorem bSetHead_c (h : BR w F b a st l s) (m : Int) :
    Calls Tryz.prog 40 #[.pointer (some ⟨b, 0, none⟩), .int .i64 m] w fun e w' => e = .returned (.tuple #[]) ∧ Mut F w w' ∧ BR w' (grow F w w') b a st l { s with head := m } := by
  have h' := h
  obtain ⟨Fa, Fs, Fl, Fb, vm, vk, hp, hF⟩ := h
  have c0 : w.cell? ⟨b, 6, none⟩ = some (.int .i64 s.head) := hp.c 6
  have f0 := hp.f 6
  have HP := Lib.hid hp
  clear hp
  go_enter Tryz.func40, Tryz.ntmps40
  go_wp2_with (go_at_call 44; refine (bNone_c h').mono ?_; rintro e w' ⟨rfl, rfl⟩)
  go_end0
  exact ⟨rfl, BR.setC HP.out hF rfl rfl rfl rfl 6 (.int .i64 m) rfl rfl rfl rfl rfl⟩
theorem bSetQuirks_c (h : BR w F b a st l s) (m : Bool) :
    Calls Tryz.prog 37 #[.pointer (some ⟨b, 0, none⟩), .bool m] w fun e w' => e = .returned (.tuple #[]) ∧ Mut F w w' ∧ BR w' (grow F w w') b a st l { s with quirks := m } := by
  have h' := h
  obtain ⟨Fa, Fs, Fl, Fb, vm, vk, hp, hF⟩ := h
  have c0 : w.cell? ⟨b, 8, none⟩ = some (.bool s.quirks) := hp.c 8
  have f0 := hp.f 8
  have HP := Lib.hid hp
  clear hp
  go_enter Tryz.func37, Tryz.ntmps37
  go_wp2_with (go_at_call 44; refine (bNone_c h').mono ?_; rintro e w' ⟨rfl, rfl⟩)
  go_end0
  exact ⟨rfl, BR.setC HP.out hF rfl rfl rfl rfl 8 (.bool m) rfl rfl rfl rfl rfl⟩
theorem bHtml_c (w : World) (n : Nd) (A1 : Option Addr) (m1 p1 : Nat) (A2 : Option Addr) (m2 p2 : Nat) (v : Value) (names : List Str) (hn : StrRow w v names) :
    Calls Tryz.prog 47 #[.agg #[.int .i64 n.kind, .string n.name, .string n.text, .int .i64 n.space, .slice A1 m1 p1, .bool n.dup, .int .i64 n.parent, .int .i64 n.content, .slice A2 m2 p2, .int .i64 n.frm, .int .i64 n.to], v] w
      fun e w' => e = .returned (.bool (St.htmlNd n names)) ∧ Bel w w' := by
  have hH := fun W (hW : Bel w W) => hasStr_c W v names n.name (hn.bel hW)
  have HH := Lib.hid hH
  have e : St.htmlNd n names = (n.kind == 3 && n.space == 0 && names.contains n.name) := rfl
  rw [e]
  clear hH e
  cases hk : n.kind == 3
  · go_enter Tryz.func47, Tryz.ntmps47
    go_wp2
    go_ret
    exact ⟨ret_bool (by simp), bel_alloc _ _⟩
  · have hk3 : n.kind = 3 := by simpa using hk
    rw [hk3]
    cases hs : n.space == 0
    · go_enter Tryz.func47, Tryz.ntmps47
      go_wp2
      go_ret
      exact ⟨ret_bool (by simp), bel_alloc _ _⟩
    · have hs0 : n.space = 0 := by simpa using hs
      rw [hs0]
      clear hk hs hk3 hs0
      go_enter Tryz.func47, Tryz.ntmps47
      go_wp2_with (go_at_call 114; refine (HH.out _ (bel_alloc _ _)).mono ?_; rintro e w' ⟨rfl, rfl⟩)
      go_ret
      exact ⟨ret_bool (by simp), bel_alloc _ _⟩

set_option maxRecDepth 100000 in
set_option maxHeartbeats 2000000 in
theorem bCurrent_c (h : BR w F b a st l s) :
    Calls Tryz.prog 48 #[.pointer (some ⟨b, 0, none⟩)] w fun e w' => ∃ v, e = .returned v ∧ NodeVal w' (fun k => w.heap.size ≤ k) v (s.node s.top) ∧ Bel w w' := by
  have h' := h
  obtain ⟨Fa, Fs, Fl, Fb, vm, vk, hp, hF⟩ := h
  have c0 : w.cell? ⟨b, 0, none⟩ = some (.pointer (some ⟨a, 0, none⟩)) := hp.c 0
  have c1 : w.cell? ⟨b, 1, none⟩ = some (.pointer (some ⟨st, 0, none⟩)) := hp.c 1
  have hbl : b < w.heap.size := hp.blt b hp.Fbb
  have hT := fun W (hW : Bel w W) => sTop_c (hp.bel hW).stack
  have hN := fun W (hW : Bel w W) => aNode_c (hp.bel hW).arena s.top
  have hnode : nodeAt s.nodes s.top = s.node s.top := rfl
  rw [hnode] at hN
  have HT := Lib.hid hT; have HN := Lib.hid hN
  clear hT hN hp hnode
  generalize s.node s.top = n at *
  go_enter Tryz.func48, Tryz.ntmps48
  go_wp2_with (go_at_call 44; refine (bNone_c (h'.bel (bel_alloc _ _))).mono ?_; rintro e w' ⟨rfl, rfl⟩)
  go_region_with (first | (go_at_call 111; refine (HT.out _ (bel_dr (bel_alloc w _))).mono ?_; rintro e w' ⟨rfl, rfl⟩) | (go_at_call 46; refine (HN.out _ (bel_dr (bel_alloc w _))).mono ?_; rintro e w1 ⟨v1, rfl, ⟨va, vk2, rfl, hVa, hVk⟩, hb1⟩; obtain ⟨A1, z1, rfl⟩ := hVa.shape; obtain ⟨A2, z2, rfl⟩ := hVk.shape; unfold ndCells; have C0 := (hb1.block w.heap.size (by simp)).trans (heap_alloc_new w _); have hz := (Array.getElem?_eq_some_iff.1 C0).1; have q0 := blk_cell C0 0; have q1 := blk_cell C0 1; have q2 := blk_cell C0 2; have q3 := blk_cell C0 3; have q4 := blk_cell C0 4; have q5 := blk_cell C0 5; have q6 := blk_cell C0 6; have q7 := blk_cell C0 7; have q8 := blk_cell C0 8; have q9 := blk_cell C0 9; have q10 := blk_cell C0 10; have g0 := blk_frozen C0 0; have g1 := blk_frozen C0 1; have g2 := blk_frozen C0 2; have g3 := blk_frozen C0 3; have g4 := blk_frozen C0 4; have g5 := blk_frozen C0 5; have g6 := blk_frozen C0 6; have g7 := blk_frozen C0 7; have g8 := blk_frozen C0 8; have g9 := blk_frozen C0 9; have g10 := blk_frozen C0 10; simp only [List.getElem?_toArray, List.getElem?_cons_succ, List.getElem?_cons_zero] at q0 q1 q2 q3 q4 q5 q6 q7 q8 q9 q10; have hbw := bel_tr (bel_dr (bel_alloc w _)) hb1; clear C0))
  all_goals (
    go_wp2
    refine bodyPost_ret (v := .agg (ndCells n (.slice A1 n.attrs.length z1) (.slice A2 n.kids.length z2)).toArray) (by simp [results, Tryz.results48, go_sem, ndCells, q0, q1, q2, q3, q4, q5, q6, q7, q8, q9, q10]) rfl ⟨_, rfl, ⟨_, _, rfl, ?_, ?_⟩, ?_⟩
    · refine AttrRow.mono (F := fun k => w.heap.size + 1 ≤ k) ?_ (fun k hk => by omega)
      repeat (refine AttrRow.set ?_ (fun k hk => by simp only; omega))
      exact hVa.mono (fun k hk => by simpa using hk)
    · refine IntRow.mono (F := fun k => w.heap.size + 1 ≤ k) ?_ (fun k hk => by omega)
      repeat (refine IntRow.set ?_ (fun k hk => by simp only; omega))
      exact hVk.mono (fun k hk => by simpa using hk)
    · repeat (refine bel_set ?_ (by simp only; omega))
      exact hbw)
theorem bIs_c (h : BR w F b a st l s) (v : Value) (names : List Str) (hn : StrRow w v names) :
    Calls Tryz.prog 21 #[.pointer (some ⟨b, 0, none⟩), v] w fun e w' => e = .returned (.bool (s.is names)) ∧ Bel w w' := by
  have hC := bCurrent_c h
  have e : s.is names = St.htmlNd (s.node s.top) names := rfl
  rw [e]
  have hH := fun W (hW : Bel w W) A1 m1 p1 A2 m2 p2 => bHtml_c W (s.node s.top) A1 m1 p1 A2 m2 p2 v names (hn.bel hW)
  have HC := Lib.hid hC; have HH := Lib.hid hH
  clear hC hH e
  generalize s.node s.top = n at *
  go_enter Tryz.func21, Tryz.ntmps21
  go_wp2_with (first | (go_at_call 48; refine HC.out.mono ?_; rintro e w1 ⟨v1, rfl, ⟨va, vk2, rfl, hVa, hVk⟩, hb1⟩; obtain ⟨A1, z1, rfl⟩ := hVa.shape; obtain ⟨A2, z2, rfl⟩ := hVk.shape; unfold ndCells) | (go_at_call 47; refine (HH.out _ hb1 _ _ _ _ _ _).mono ?_; rintro e w2 ⟨rfl, hb2⟩))
  go_ret
  exact ⟨rfl, bel_tr hb1 hb2⟩
end Go.Proofs.YtgaebaokcjhcdaaGreatDoor

/- The builder: Fail, target, Place and Put where nothing is foster-parented. -/
set_option linter.unusedVariables false
set_option linter.unusedSimpArgs false
namespace Go.Proofs.YtgaebaokcjhcdaaGreatDoor
open Go.RowKit Lz
variable {w w' : World} {F : Nat → Prop} {b a st l : Nat} {s : St}

theorem bFail_c (h : BR w F b a st l s) (e : Int) :
    Calls Tryz.prog 116 #[.pointer (some ⟨b, 0, none⟩), .int .i64 e] w fun e' w' => e' = .returned (.tuple #[]) ∧ Mut F w w' ∧ BR w' (grow F w w') b a st l (s.fail e) := by
  have h' := h
  obtain ⟨Fa, Fs, Fl, Fb, vm, vk, hp, hF⟩ := h
  have c0 : w.cell? ⟨b, 13, none⟩ = some (errV s.err) := hp.c 13
  have f0 := hp.f 13
  have HP := Lib.hid hp
  clear hp
  by_cases h0 : s.err = 0
  · have hv : errV s.err = .nilIface := by unfold errV; rw [if_pos h0]
    rw [hv] at c0
    by_cases e0 : e = 0
    · have hfin : s.fail e = s := by unfold St.fail; simp [e0]
      subst e0
      have HFi := Lib.hid hfin
      clear hfin hv
      go_enter Tryz.func116, Tryz.ntmps116
      go_wp2_with (go_at_call 44; refine (bNone_c h').mono ?_; rintro e w' ⟨rfl, rfl⟩)
      go_end0
      exact ⟨rfl, Mut.refl _ _, by rw [HFi.out]; exact h'.refl⟩
    · have hfin : s.fail e = { s with err := e } := by unfold St.fail; simp [h0, e0]
      have hne : (e != 0) = true := by simpa using e0
      have hev : errV e = .iface 73 (.int .i64 e) := by unfold errV; rw [if_neg e0]
      have hset : (bCells a st l vm vk s).setIfInBounds 13 (.iface 73 (.int .i64 e)) = bCells a st l vm vk { s with err := e } := by rw [← hev]; rfl
      have HFi := Lib.hid hfin; have HS := Lib.hid hset
      clear hfin hv hev hset e0 h0
      go_enter Tryz.func116, Tryz.ntmps116
      go_wp2_with (go_at_call 44; refine (bNone_c h').mono ?_; rintro e w' ⟨rfl, rfl⟩)
      go_end0
      exact ⟨rfl, by rw [HFi.out]; exact BR.setC HP.out hF rfl rfl rfl rfl 13 _ HS.out rfl rfl rfl rfl⟩
  · have hv : errV s.err = .iface 73 (.int .i64 s.err) := by unfold errV; rw [if_neg h0]
    rw [hv] at c0
    have hfin : s.fail e = s := by unfold St.fail; simp [h0]
    have HFi := Lib.hid hfin
    clear hfin hv h0
    go_enter Tryz.func116, Tryz.ntmps116
    go_wp2_with (go_at_call 44; refine (bNone_c h').mono ?_; rintro e w' ⟨rfl, rfl⟩)
    all_goals (
      go_end0
      exact ⟨rfl, Mut.refl _ _, by rw [HFi.out]; exact h'.refl⟩)
theorem bTarget_c (h : BR w F b a st l s) :
    Calls Tryz.prog 57 #[.pointer (some ⟨b, 0, none⟩)] w fun e w' => e = .returned (.int .i64 s.target) ∧ w = w' := by
  obtain ⟨Fa, Fs, Fl, Fb, vm, vk, hp, hF⟩ := h
  have c1 : w.cell? ⟨b, 1, none⟩ = some (.pointer (some ⟨st, 0, none⟩)) := hp.c 1
  have hT := sTop_c hp.stack
  have e : s.target = max s.top 0 := rfl
  rw [e]
  have HT := Lib.hid hT
  clear hT hp e
  generalize s.top = t at *
  go_enter Tryz.func57, Tryz.ntmps57
  go_wp2_with (go_at_call 111; refine HT.out.mono ?_; rintro e w' ⟨rfl, rfl⟩)
  go_ret
  exact ⟨rfl, rfl⟩

/-- A slice of texts that was written out. -/
theorem strRow_lit {W : World} {g : Nat} (xs : List Str) (h : W.heap[g]? = some (.cells (xs.map Value.string).toArray 9 (0, 0))) (hl : xs.length ≤ 1048576) : StrRow W (.slice (some ⟨g, 0, none⟩) xs.length xs.length) xs :=
  ⟨hl, .inr ⟨g, _, _, _, rfl, h, fun i hi => by simp [List.getElem?_map, List.getD_eq_getElem?_getD, hi]⟩⟩
set_option maxRecDepth 100000 in
set_option maxHeartbeats 2000000 in
theorem bPlace_c (h : BR w F b a st l s) (hf : s.foster = false) (t : Int) :
    Calls Tryz.prog 56 #[.pointer (some ⟨b, 0, none⟩), .int .i64 t] w fun e w' => e = .returned (.tuple #[.int .i64 (s.place t).1, .int .i64 (-1)]) ∧ (s.place t).2 = -1 ∧ Bel w w' := by
  have h' := h
  obtain ⟨Fa, Fs, Fl, Fb, vm, vk, hp, hF⟩ := h
  have c0 : w.cell? ⟨b, 0, none⟩ = some (.pointer (some ⟨a, 0, none⟩)) := hp.c 0
  have c9 : w.cell? ⟨b, 9, none⟩ = some (.bool s.foster) := hp.c 9
  rw [hf] at c9
  have hN := aNode_c hp.arena t
  have hnode : nodeAt s.nodes t = s.node t := rfl
  rw [hnode] at hN
  have e : s.place t = if St.htmlNd (s.node t) [n_template] then ((s.node t).content, -1) else (t, -1) := by
    unfold St.place
    rw [hf]
    simp
  rw [e]
  clear hp hnode e hf
  generalize s.node t = n at *
  have hH := fun W A1 m1 p1 A2 m2 p2 v hv => bHtml_c W n A1 m1 p1 A2 m2 p2 v [n_template] hv
  have HN := Lib.hid hN
  clear hN
  cases hb : St.htmlNd n [n_template]
  · rw [hb] at hH
    have HH := Lib.hid hH
    clear hH hb
    go_enter Tryz.func56, Tryz.ntmps56
    go_wp2_with (first | (go_at_call 44; refine (bNone_c h').mono ?_; rintro e w' ⟨rfl, rfl⟩) | (go_at_call 46; refine HN.out.mono ?_; rintro e w1 ⟨v1, rfl, ⟨va, vk2, rfl, hVa, hVk⟩, hb1⟩; obtain ⟨A1, z1, rfl⟩ := hVa.shape; obtain ⟨A2, z2, rfl⟩ := hVk.shape; unfold ndCells) | (go_at_call 47; refine (HH.out _ _ _ _ _ _ _ _ (strRow_lit [n_template] (heap_alloc2_new w1 _ _) (by decide))).mono ?_; rintro e w2 ⟨rfl, hb2⟩; have k7 := blk_cell ((hb2.block w1.heap.size (by simp; omega)).trans (heap_alloc2_old w1 _ _)) 7; simp only [List.getElem?_toArray, List.getElem?_cons_succ, List.getElem?_cons_zero] at k7))
    refine bodyPost_ret (v := .tuple #[.int .i64 t, .int .i64 (-1)]) (by simp [results, Tryz.results56, go_sem]) rfl ⟨rfl, bel_tr hb1 (bel_tr (bel_al (bel_alloc _ _)) hb2)⟩
  · rw [hb] at hH
    have HH := Lib.hid hH
    clear hH hb
    go_enter Tryz.func56, Tryz.ntmps56
    go_wp2_with (first | (go_at_call 44; refine (bNone_c h').mono ?_; rintro e w' ⟨rfl, rfl⟩) | (go_at_call 46; refine HN.out.mono ?_; rintro e w1 ⟨v1, rfl, ⟨va, vk2, rfl, hVa, hVk⟩, hb1⟩; obtain ⟨A1, z1, rfl⟩ := hVa.shape; obtain ⟨A2, z2, rfl⟩ := hVk.shape; unfold ndCells) | (go_at_call 47; refine (HH.out _ _ _ _ _ _ _ _ (strRow_lit [n_template] (heap_alloc2_new w1 _ _) (by decide))).mono ?_; rintro e w2 ⟨rfl, hb2⟩; have k7 := blk_cell ((hb2.block w1.heap.size (by simp; omega)).trans (heap_alloc2_old w1 _ _)) 7; simp only [List.getElem?_toArray, List.getElem?_cons_succ, List.getElem?_cons_zero] at k7))
    refine bodyPost_ret (v := .tuple #[.int .i64 n.content, .int .i64 (-1)]) (by simp [results, Tryz.results56, go_sem]) rfl ⟨rfl, bel_tr hb1 (bel_tr (bel_al (bel_alloc _ _)) hb2)⟩

/-- Put, where nothing is foster-parented. -/
theorem bPut_c (h : BR w F b a st l s) (hf : s.foster = false) (i t : Int) :
    Calls Tryz.prog 60 #[.pointer (some ⟨b, 0, none⟩), .int .i64 i, .int .i64 t] w fun e w' => e = .returned (.tuple #[]) ∧ Mut F w w' ∧ BR w' (grow F w w') b a st l (s.put i t) := by
  have h' := h
  obtain ⟨Fa, Fs, Fl, Fb, vm, vk, hp, hF⟩ := h
  have c0 : w.cell? ⟨b, 0, none⟩ = some (.pointer (some ⟨a, 0, none⟩)) := hp.c 0
  have hbl : b < w.heap.size := hp.blt b hp.Fbb
  have hP := bPlace_c h' hf t
  have hA := fun W (hW : Bel w W) p => aAppend_c W Fa a s.nodes p i (hp.bel hW).arena
  have e : (s.place t).2 = -1 → s.put i t = { s with nodes := appendN s.nodes (s.place t).1 i } := by
    intro e
    unfold St.put
    simp only
    rw [if_neg (by omega)]
  have HP := Lib.hid hP; have HA := Lib.hid hA; have HV := Lib.hid hp; have HE := Lib.hid e
  clear hP hA hp e
  generalize s.place t = pr at *
  go_enter Tryz.func60, Tryz.ntmps60
  go_wp2_with (first | (go_at_call 44; refine (bNone_c h').mono ?_; rintro e w' ⟨rfl, rfl⟩) | (go_at_call 56; refine HP.out.mono ?_; rintro e w1 ⟨rfl, hpr, hb1⟩; have HPR := Lib.hid hpr; clear hpr; have c0' := (hb1.cell (p := ⟨b, 0, none⟩) hbl).trans c0) | (go_at_call 61; refine (HA.out _ hb1 _).mono ?_; rintro e w2 ⟨rfl, hm, hr⟩))
  go_end0
  have h2 := BR.ofArena (HV.out.bel hb1) (fun k hk => .inl (hF k hk)) (F := grow F w w1) hm hr
  have h3 := BR.trans (Mut.of_bel hb1) h2 (s1 := s)
  exact ⟨rfl, h3.1, by rw [HE.out HPR.out]; exact h3.2⟩
end Go.Proofs.YtgaebaokcjhcdaaGreatDoor

/- The builder: element, Insert where nothing is foster-parented and the token is no template. -/
set_option linter.unusedVariables false
set_option linter.unusedSimpArgs false
namespace Go.Proofs.YtgaebaokcjhcdaaGreatDoor
open Go.RowKit Lz
variable {w w' : World} {F : Nat → Prop} {b a st l : Nat} {s : St}

theorem BR.mono_ {G : Nat → Prop} (h : BR w F b a st l s) (hG : ∀ k, F k → G k) : BR w G b a st l s := by
  obtain ⟨Fa, Fs, Fl, Fb, vm, vk, hp, hF⟩ := h
  exact ⟨Fa, Fs, Fl, Fb, vm, vk, hp, fun k hk => hG k (hF k hk)⟩
set_option maxRecDepth 100000 in
set_option maxHeartbeats 2000000 in
theorem bElement_c (w : World) (t : Tok) (A : Option Addr) (m c : Nat) (space : Int) :
    Calls Tryz.prog 117 #[.agg #[.int .i64 t.kind, .string t.name, .string t.text, .slice A m c, .bool t.dup, .bool t.self, .bool t.quirks, .int .i64 t.frm, .int .i64 t.to], .int .i64 space] w
      fun e w' => e = .returned (.agg #[.int .i64 3, .string t.name, .string n_empty, .int .i64 space, .slice A m c, .bool t.dup, .int .i64 0, .int .i64 0, .slice none 0 0, .int .i64 t.frm, .int .i64 t.to]) ∧ Bel w w' := by
  go_enter Tryz.func117, Tryz.ntmps117
  go_wp2
  refine bodyPost_ret (v := .agg #[.int .i64 3, .string t.name, .string n_empty, .int .i64 space, .slice A m c, .bool t.dup, .int .i64 0, .int .i64 0, .slice none 0 0, .int .i64 t.frm, .int .i64 t.to]) (by simp [results, Tryz.results117, go_sem, n_empty]) rfl ⟨rfl, ?_⟩
  first
    | exact bel_al (bel_alloc _ _)
    | (repeat (refine bel_set ?_ (by simp))
       exact bel_al (bel_alloc _ _))

theorem push_eq (s : St) (i : Int) : { s with stk := (s.push i).stk } = s.push i := by
  unfold St.push St.insert
  split <;> rfl
set_option maxRecDepth 100000 in
set_option maxHeartbeats 2000000 in
theorem bInsert_c (h : BR w F b a st l s) (hf : s.foster = false) (t : Tok) (A : Option Addr) (m c : Nat) (G : Nat → Prop) (hA : AttrRow w G (.slice A m c) t.attrs) (hal : t.attrs.length ≤ 1048576) (space : Int) (hroom : s.nodes.length + 2 ≤ 1048576) (htm : isTemplate (St.tagNd t space) = false) :
    Calls Tryz.prog 53 #[.pointer (some ⟨b, 0, none⟩), .agg #[.int .i64 t.kind, .string t.name, .string t.text, .slice A m c, .bool t.dup, .bool t.self, .bool t.quirks, .int .i64 t.frm, .int .i64 t.to], .int .i64 space] w
      fun e w' => e = .returned (.int .i64 s.insI) ∧ Mut F w w' ∧ BR w' (grow F w w') b a st l (s.ins t space) := by
  have h' := h
  obtain ⟨Fa, Fs, Fl, Fb, vm, vk, hp, hF⟩ := h
  have c0 : w.cell? ⟨b, 0, none⟩ = some (.pointer (some ⟨a, 0, none⟩)) := hp.c 0
  have c1 : w.cell? ⟨b, 1, none⟩ = some (.pointer (some ⟨st, 0, none⟩)) := hp.c 1
  have hbl : b < w.heap.size := hp.blt b hp.Fbb
  have hL := fun W (hW : Bel w W) => sLen_c (hp.bel hW).stack
  have hs := hp.stack.small
  have HL := Lib.hid hL
  clear hL
  by_cases h5 : (512 : Int) ≤ s.stk.length
  · have hfin : s.insI = -1 ∧ s.ins t space = s.fail 150 := by unfold St.insI St.ins; rw [if_pos h5, if_pos h5]; exact ⟨rfl, rfl⟩
    rw [hfin.1, hfin.2]
    have HF := Lib.hid (fun W (hW : Bel w W) => bFail_c (h'.bel hW) 150)
    clear hp hfin
    go_enter Tryz.func53, Tryz.ntmps53
    go_wp2_with (first | (go_at_call 44; refine (bNone_c (h'.bel (bel_alloc _ _))).mono ?_; rintro e w' ⟨rfl, rfl⟩) | (go_at_call 20; refine (HL.out _ (bel_alloc _ _)).mono ?_; rintro e w' ⟨rfl, rfl⟩) | (go_at_call 116; refine (HF.out _ (bel_alloc _ _)).mono ?_; rintro e w2 ⟨rfl, hm, hr⟩))
    go_ret
    have h3 := BR.trans (s1 := s) (h'.ofBel (bel_alloc w (.cells #[.int .i64 t.kind, .string t.name, .string t.text, .slice A m c, .bool t.dup, .bool t.self, .bool t.quirks, .int .i64 t.frm, .int .i64 t.to] 24 (0, 0)))).1 ⟨hm.mono fun k hk => .inl hk, hr.mono_ (fun k hk => hk.elim (fun h => .inl (.inl h)) .inr)⟩
    exact ⟨rfl, h3⟩
  · have hfin : s.insI = (s.nodes.length : Int) ∧ s.ins t space = (((s.add (St.tagNd t space)).put (s.nodes.length : Int) (s.add (St.tagNd t space)).target).push (s.nodes.length : Int)).fail (((s.add (St.tagNd t space)).put (s.nodes.length : Int) (s.add (St.tagNd t space)).target).pushE (s.nodes.length : Int)) := by
      unfold St.insI St.ins; rw [if_neg h5, if_neg h5]; exact ⟨rfl, rfl⟩
    have hadd : s.add (St.tagNd t space) = { s with nodes := addN s.nodes (St.tagNd t space) } := by unfold St.add; rw [if_pos (by rfl)]
    have HAdd := Lib.hid (fun W (hW : Bel w W) (hAW : AttrRow W G (.slice A m c) t.attrs) => aAdd_c W Fa a s.nodes G (St.tagNd t space) (.slice A m c) (.slice none 0 0) (hp.bel hW).arena hAW hal ⟨_, _, _, rfl⟩ rfl hroom htm)
    have HV := Lib.hid hp; have HF := Lib.hid hF; have HFN := Lib.hid hfin; have HAD := Lib.hid hadd; have HAA := Lib.hid hA
    have HF0 := Lib.hid hf
    clear hp hfin hadd hA hf htm
    go_enter Tryz.func53, Tryz.ntmps53
    go_wp2_with (first | (go_at_call 44; refine (bNone_c (h'.bel (bel_alloc _ _))).mono ?_; rintro e w' ⟨rfl, rfl⟩) | (go_at_call 20; refine (HL.out _ (bel_alloc _ _)).mono ?_; rintro e w' ⟨rfl, rfl⟩))
    go_region_with (first | (go_at_call 117; refine (bElement_c _ t A m c space).mono ?_; rintro e w1 ⟨rfl, hb1⟩; have hbx := bel_tr (bel_dr (bel_alloc w _)) hb1; have c0e := (hbx.cell (p := ⟨b, 0, none⟩) hbl).trans c0) | (go_at_call 59; refine (HAdd.out _ hbx (HAA.out.bel hbx)).mono ?_; rintro e w2 ⟨rfl, hm2, hr2⟩; have h2 := BR.trans (s1 := s) (Mut.of_bel hbx) (BR.ofArena (HV.out.bel hbx) (F := grow F w w1) (fun k hk => .inl (HF.out k hk)) hm2 hr2); clear hm2 hr2))
    all_goals (
      clear c0e hbx hb1 c0 c1
      go_wp2_with (first | (go_at_call 57; refine (bTarget_c h2.2).mono ?_; rintro e w' ⟨rfl, rfl⟩) | (go_at_call 60; refine (bPut_c h2.2 HF0.out _ _).mono ?_; rintro e w3 ⟨rfl, hm3, hB3⟩; have h3 := BR.trans (s1 := s) h2.1 ⟨hm3, hB3⟩; clear hm3 hB3; obtain ⟨Fa3, Fs3, Fl3, Fb3, vm3, vk3, hp3, hF3⟩ := h3.2; have d1 : w3.cell? ⟨b, 1, none⟩ = some (.pointer (some ⟨st, 0, none⟩)) := hp3.c 1) | (go_at_call 118; refine (sPush_c hp3.stack hp3.arena _).mono ?_; rintro e w4 ⟨rfl, hm4, hr4⟩; have h4 := BR.trans (s1 := s) h3.1 (BR.ofStack hp3 hF3 hm4 hr4); clear hm4 hr4) | (go_at_call 116; refine (bFail_c h4.2 _).mono ?_; rintro e w5 ⟨rfl, hm5, hB5⟩; have h5' := BR.trans (s1 := s) h4.1 ⟨hm5, hB5⟩; clear hm5 hB5))
      go_ret
      refine ⟨ret_int HFN.out.1.symm, ?_⟩
      rw [push_eq] at h5'
      rw [HFN.out.2, HAD.out]
      exact h5')
end Go.Proofs.YtgaebaokcjhcdaaGreatDoor
