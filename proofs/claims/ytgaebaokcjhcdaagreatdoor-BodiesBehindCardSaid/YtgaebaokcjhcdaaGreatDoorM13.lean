/- adopt: once. -/
import Derived.Test.YtgaebaokcjhcdaaGreatDoorM12

set_option linter.unusedVariables false
set_option linter.unusedSimpArgs false
namespace Go.Proofs.YtgaebaokcjhcdaaGreatDoor
open Go.RowKit Lz
variable {w0 w w' : World} {F : Nat → Prop} {b a st l n : Nat} {s s' : St}

/-- What the restricted contracts ask of one round. -/
def OnceOK (s : St) (name : Str) : Prop :=
  s.flastName name < 0 ∨ s.index (s.flastName name) < 0 ∨ s.hasNode 0 (s.flastName name) = false ∨ s.furthest (s.index (s.flastName name)) < 0 ∨
    (s.at_ (s.index (s.furthest (s.index (s.flastName name))) - 1) = s.flastName name ∧
      RenewOK (s.put (s.furthest (s.index (s.flastName name))) (s.at_ (s.index (s.flastName name) - 1))) (s.flastName name) (s.furthest (s.index (s.flastName name))) (s.findex (s.flastName name)))
theorem index_lt (s : St) (i : Int) : s.index i < s.stk.length := lastBelow_lt _ _
theorem index_ge (s : St) (i : Int) : -1 ≤ s.index i := lastBelow_ge _ _
def OnceP (w0 : World) (F : Nat → Prop) (b a st l : Nat) (r : St × Bool × Bool) (e : Ending) (w' : World) : Prop := e = .returned (.tuple #[.bool r.2.1, .bool r.2.2]) ∧ BS w0 F w' b a st l r.1
set_option maxRecDepth 100000 in
set_option maxHeartbeats 4000000 in
theorem once_none (h : BS w0 F w b a st l s) (name : Str) (h1 : s.flastName name < 0) :
    Calls Tryz.prog 193 #[.pointer (some ⟨b, 0, none⟩), .string name] w (OnceP w0 F b a st l (s.once name)) := by
  have e : s.once name = (s, false, false) := by unfold St.once; simp only []; rw [if_pos h1]
  rw [e]
  have HL := Lib.hid (h.flastName_ name)
  generalize s.flastName name = f at *
  clear e
  go_enter Tryz.func193, Tryz.ntmps193
  go_wp2_with (first | (go_at_call 19; refine (h.stack_).mono ?_; rintro e w' ⟨rfl, rfl⟩) | (go_at_call 132; refine (h.formats_).mono ?_; rintro e w' ⟨rfl, rfl⟩) | (go_at_call 146; refine (HL.out).mono ?_; rintro e w1 ⟨rfl, h1⟩))
  go_ret2
  exact ⟨rfl, ‹BS w0 F w1 b a st l s›⟩
set_option maxRecDepth 100000 in
set_option maxHeartbeats 4000000 in
theorem once_lost (h : BS w0 F w b a st l s) (name : Str) (h0 : ¬ s.flastName name < 0) (h1 : s.index (s.flastName name) < 0) :
    Calls Tryz.prog 193 #[.pointer (some ⟨b, 0, none⟩), .string name] w (OnceP w0 F b a st l (s.once name)) := by
  have e : s.once name = (s.fremove (s.flastName name), false, true) := by unfold St.once; simp only []; rw [if_neg h0, if_pos h1]
  rw [e]
  have HL := Lib.hid (h.flastName_ name)
  generalize s.flastName name = f at *
  have HI := Lib.hid (fun W (k : BS w0 F W b a st l s) => k.index_ f)
  generalize s.index f = i at *
  clear e
  go_enter Tryz.func193, Tryz.ntmps193
  go_wp2_with (first | (go_at_call 19; refine (h.stack_).mono ?_; rintro e w' ⟨rfl, rfl⟩) | (go_at_call 132; refine (h.formats_).mono ?_; rintro e w' ⟨rfl, rfl⟩) | (go_at_call 146; refine (HL.out).mono ?_; rintro e w1 ⟨rfl, k1⟩) | (go_at_call 115; refine (HI.out _ k1).mono ?_; rintro e w' ⟨rfl, rfl⟩) | (go_at_call 147; refine (k1.fremove_ f).mono ?_; rintro e w2 ⟨rfl, k2⟩))
  go_ret2
  exact ⟨rfl, k2⟩
set_option maxRecDepth 100000 in
set_option maxHeartbeats 4000000 in
theorem once_out (h : BS w0 F w b a st l s) (hf : Fine n s) (name : Str) (h0 : ¬ s.flastName name < 0) (h1 : ¬ s.index (s.flastName name) < 0) (h2 : s.hasNode 0 (s.flastName name) = false) :
    Calls Tryz.prog 193 #[.pointer (some ⟨b, 0, none⟩), .string name] w (OnceP w0 F b a st l (s.once name)) := by
  have e : s.once name = (s, false, true) := by unfold St.once; simp only []; rw [if_neg h0, if_neg h1, h2]; rfl
  rw [e]
  have HL := Lib.hid (h.flastName_ name)
  generalize s.flastName name = f at *
  have HI := Lib.hid (fun W (k : BS w0 F W b a st l s) => k.index_ f)
  have hH := fun W (k : BS w0 F W b a st l s) => k.hasNode_ hf.names 0 f
  rw [h2] at hH
  have HH := Lib.hid hH
  clear hH e h2
  generalize s.index f = i at *
  go_enter Tryz.func193, Tryz.ntmps193
  go_wp2_with (first | (go_at_call 19; refine (h.stack_).mono ?_; rintro e w' ⟨rfl, rfl⟩) | (go_at_call 132; refine (h.formats_).mono ?_; rintro e w' ⟨rfl, rfl⟩) | (go_at_call 146; refine (HL.out).mono ?_; rintro e w1 ⟨rfl, k1⟩) | (go_at_call 115; refine (HI.out _ k1).mono ?_; rintro e w' ⟨rfl, rfl⟩) | (go_at_call 155; refine (HH.out _ k1).mono ?_; rintro e w2 ⟨rfl, k2⟩))
  go_ret2
  exact ⟨rfl, k2⟩
set_option maxRecDepth 100000 in
set_option maxHeartbeats 4000000 in
theorem once_pop (h : BS w0 F w b a st l s) (hf : Fine n s) (name : Str) (h0 : ¬ s.flastName name < 0) (h1 : ¬ s.index (s.flastName name) < 0) (h2 : s.hasNode 0 (s.flastName name) = true) (h3 : s.furthest (s.index (s.flastName name)) < 0) :
    Calls Tryz.prog 193 #[.pointer (some ⟨b, 0, none⟩), .string name] w (OnceP w0 F b a st l (s.once name)) := by
  have e : s.once name = ((s.popTo (s.index (s.flastName name))).fremove (s.flastName name), false, true) := by unfold St.once; simp only []; rw [if_neg h0, if_neg h1, h2]; simp only [Bool.not_true, Bool.false_eq_true, if_false]; rw [if_pos h3]
  rw [e]
  have HL := Lib.hid (h.flastName_ name)
  have hlt := index_lt s (s.flastName name)
  generalize s.flastName name = f at *
  have HI := Lib.hid (fun W (k : BS w0 F W b a st l s) => k.index_ f)
  have hH := fun W (k : BS w0 F W b a st l s) => k.hasNode_ hf.names 0 f
  rw [h2] at hH
  have HH := Lib.hid hH
  have HFU := Lib.hid (fun W (k : BS w0 F W b a st l s) => furthest_c k hf (s.index f) (by omega) hlt)
  have HP := Lib.hid (fun W (k : BS w0 F W b a st l s) => adPop_c k (s.index f) (by omega))
  have HR := Lib.hid (fun W (k : BS w0 F W b a st l (s.popTo (s.index f))) => k.fremove_ f)
  clear hH e h2 hlt
  generalize s.furthest (s.index f) = fu at *
  generalize s.index f = i at *
  go_enter Tryz.func193, Tryz.ntmps193
  go_wp2_with (first | (go_at_call 19; refine (h.stack_).mono ?_; rintro e w' ⟨rfl, rfl⟩) | (go_at_call 132; refine (h.formats_).mono ?_; rintro e w' ⟨rfl, rfl⟩) | (go_at_call 146; refine (HL.out).mono ?_; rintro e w1 ⟨rfl, k1⟩) | (go_at_call 115; refine (HI.out _ k1).mono ?_; rintro e w' ⟨rfl, rfl⟩) | (go_at_call 155; refine (HH.out _ k1).mono ?_; rintro e w2 ⟨rfl, k2⟩) | (go_at_call 210; refine (HFU.out _ k2).mono ?_; rintro e w3 ⟨rfl, k3⟩) | (go_at_call 105; refine (HP.out _ k3).mono ?_; rintro e w4 ⟨rfl, k4⟩) | (go_at_call 147; refine (HR.out _ k4).mono ?_; rintro e w5 ⟨rfl, k5⟩))
  go_ret2
  exact ⟨rfl, k5⟩
end Go.Proofs.YtgaebaokcjhcdaaGreatDoor

/- adopt: once, where a block stands right below; Run. -/
set_option linter.unusedVariables false
set_option linter.unusedSimpArgs false
namespace Go.Proofs.YtgaebaokcjhcdaaGreatDoor
open Go.RowKit Lz
variable {w0 w w' : World} {F : Nat → Prop} {b a st l n : Nat} {s s' : St}

theorem inward_eq {format block mark : Int} (h : s.at_ (s.index block - 1) = format) : s.inward format block mark = (s, block, mark) := by
  unfold St.inward St.inwardGo
  simp only []
  rw [h]; simp
set_option maxRecDepth 100000 in
set_option maxHeartbeats 8000000 in
theorem once_block (h : BS w0 F w b a st l s) (hf : Fine n s) (hn : n + 2 ≤ 1048576) (name : Str) (h0 : ¬ s.flastName name < 0) (h1 : ¬ s.index (s.flastName name) < 0) (h2 : s.hasNode 0 (s.flastName name) = true) (h3 : ¬ s.furthest (s.index (s.flastName name)) < 0)
    (h4 : s.at_ (s.index (s.furthest (s.index (s.flastName name))) - 1) = s.flastName name)
    (h5 : RenewOK (s.put (s.furthest (s.index (s.flastName name))) (s.at_ (s.index (s.flastName name) - 1))) (s.flastName name) (s.furthest (s.index (s.flastName name))) (s.findex (s.flastName name))) :
    Calls Tryz.prog 193 #[.pointer (some ⟨b, 0, none⟩), .string name] w (OnceP w0 F b a st l (s.once name)) := by
  have e : s.once name = ((s.put (s.furthest (s.index (s.flastName name))) (s.at_ (s.index (s.flastName name) - 1))).renew (s.flastName name) (s.furthest (s.index (s.flastName name))) (s.findex (s.flastName name)), true, true) := by
    unfold St.once; simp only []; rw [if_neg h0, if_neg h1, h2]; simp only [Bool.not_true, Bool.false_eq_true, if_false]; rw [if_neg h3, inward_eq h4]
  rw [e]
  have HL := Lib.hid (h.flastName_ name)
  have hlt := index_lt s (s.flastName name)
  have hsm := h.small
  generalize s.flastName name = f at *
  have HI := Lib.hid (fun W (k : BS w0 F W b a st l s) => k.index_ f)
  have hH := fun W (k : BS w0 F W b a st l s) => k.hasNode_ hf.names 0 f
  rw [h2] at hH
  have HH := Lib.hid hH
  have HFU := Lib.hid (fun W (k : BS w0 F W b a st l s) => furthest_c k hf (s.index f) (by omega) hlt)
  have HAT := Lib.hid (fun W (k : BS w0 F W b a st l s) => k.at_ (s.index f - 1))
  have HFX := Lib.hid (fun W (k : BS w0 F W b a st l s) => k.findex_ f)
  have wi : IntKind.i64.wrap (s.index f - 1) = s.index f - 1 := IntWalk.i64_in _ (by omega)
  have HW := Lib.hid h4; have HOK := Lib.hid h5
  clear hH e h2 hlt h4 h5
  generalize s.furthest (s.index f) = fu at *
  generalize s.index f = i at *
  generalize s.at_ (i - 1) = ab at *
  generalize s.findex f = fx at *
  have HIN := Lib.hid (fun w0 F W (k : BS w0 F W b a st l s) r hr => inward_now k r f fu ab fx hr HW.out)
  have HPU := Lib.hid (fun w0 F W (k : BS w0 F W b a st l s) => k.put_ hf.foster fu ab)
  have HRN := Lib.hid (fun w0 F W (k : BS w0 F W b a st l (s.put fu ab)) r hr0 hrF hr => renew_now k (hf.put fu ab) hn r hr0 hrF f fu ab fx hr HOK.out)
  go_enter Tryz.func193, Tryz.ntmps193
  go_wp2_with (first | (go_at_call 19; refine (h.stack_).mono ?_; rintro e w' ⟨rfl, rfl⟩) | (go_at_call 132; refine (h.formats_).mono ?_; rintro e w' ⟨rfl, rfl⟩) | (go_at_call 146; refine (HL.out).mono ?_; rintro e w1 ⟨rfl, k1⟩) | (go_at_call 115; refine (HI.out _ k1).mono ?_; rintro e w' ⟨rfl, rfl⟩) | (go_at_call 155; refine (HH.out _ k1).mono ?_; rintro e w2 ⟨rfl, k2⟩) | (go_at_call 210; refine (HFU.out _ k2).mono ?_; rintro e w3 ⟨rfl, k3⟩) | (go_at_call 49; refine (HAT.out _ k3).mono ?_; rintro e w' ⟨rfl, rfl⟩) | (go_at_call 187; refine (HFX.out _ k3).mono ?_; rintro e w4 ⟨rfl, k4⟩))
  have kE := k4.enter (bel_alloc w4 (runO b f fu ab fx))
  have hrun : (w4.alloc (runO b f fu ab fx)).heap[w4.heap.size]? = some (runO b f fu ab fx) := heap_alloc_new w4 _
  have hrlt : w4.heap.size < (w4.alloc (runO b f fu ab fx)).heap.size := by simp
  have hrG : ¬ grow F w0 w4 w4.heap.size := fun hk => Nat.lt_irrefl _ (k4.blt _ hk)
  have hsub := fun W' s2 (k : BS (w4.alloc (runO b f fu ab fx)) (grow F w0 w4) W' b a st l s2) => k4.sub (bel_alloc w4 (runO b f fu ab fx)) k
  have q3 := blk_cell hrun 3
  simp only [List.getElem?_toArray, List.getElem?_cons_succ, List.getElem?_cons_zero] at q3
  have HRUN := Lib.hid hrun; have HSUB := Lib.hid hsub
  clear hrun hsub k1 k2 k3 k4 HL HI HH HFU HAT HFX h
  generalize w4.heap.size = r at *
  generalize w4.alloc (runO b f fu ab fx) = W at *
  go_region_with (first | (go_at_call 211; refine (HIN.out _ _ _ (kE.bel (by repeat (first | exact Below.refl _ _ | exact bel_alloc _ _ | apply bel_dr | apply bel_drN))) r (by exact HRUN.out)).mono ?_; rintro e w5 ⟨rfl, hb5⟩; have hb5' := bel_tr (show Bel W _ from (by repeat (first | exact Below.refl _ _ | exact bel_alloc _ _ | apply bel_dr | apply bel_drN))) hb5; have q3' := (hb5'.cell (p := ⟨r, 3, none⟩) hrlt).trans q3) | (go_at_call 60; refine (HPU.out _ _ _ (kE.bel (bel_tr hb5' (by repeat (first | exact Below.refl _ _ | exact bel_alloc _ _ | apply bel_dr | apply bel_drN))))).mono ?_; rintro e w6 ⟨rfl, k6⟩; have hq6 := (k6.kept hrlt hrG).trans HRUN.out))
  all_goals (
    go_wp2_with (go_at_call 212; refine (HRN.out _ _ _ k6 r hrlt hrG hq6).mono ?_; rintro e w7 ⟨rfl, k7⟩)
    go_ret2
    exact ⟨rfl, HSUB.out _ _ k7⟩)
end Go.Proofs.YtgaebaokcjhcdaaGreatDoor

/- adopt: Run; bodies.formatted. -/
set_option linter.unusedVariables false
set_option linter.unusedSimpArgs false
namespace Go.Proofs.YtgaebaokcjhcdaaGreatDoor
open Go.RowKit Lz
variable {w0 w w' : World} {F : Nat → Prop} {b a st l n : Nat} {s s' : St}

theorem once_c (h : BS w0 F w b a st l s) (hf : Fine n s) (hn : n + 2 ≤ 1048576) (name : Str) (hok : OnceOK s name) :
    Calls Tryz.prog 193 #[.pointer (some ⟨b, 0, none⟩), .string name] w (OnceP w0 F b a st l (s.once name)) := by
  by_cases h0 : s.flastName name < 0
  · exact once_none h name h0
  by_cases h1 : s.index (s.flastName name) < 0
  · exact once_lost h name h0 h1
  cases h2 : s.hasNode 0 (s.flastName name)
  · exact once_out h hf name h0 h1 h2
  by_cases h3 : s.furthest (s.index (s.flastName name)) < 0
  · exact once_pop h hf name h0 h1 h2 h3
  rcases hok with h | h | h | h | ⟨h4, h5⟩
  · exact absurd h h0
  · exact absurd h h1
  · rw [h2] at h; cases h
  · exact absurd h h3
  · exact once_block h hf hn name h0 h1 h2 h3 h4 h5
theorem fine_renew {n : Nat} {s : St} (hf : Fine n s) {format block mark : Int} (h : RenewOK s format block mark) : Fine (n + 1) (s.renew format block mark) := by
  rw [renew_eq h]
  refine Fine.push (Fine.remove (Fine.finsert (Fine.fremove ?_ _) _ _) _) _
  exact ((hf.fresh format).alike (alike_moveN _ _ _)).alike (alike_appendN _ _ _)
theorem fine_once {n : Nat} {s : St} (hf : Fine n s) (name : Str) (hok : OnceOK s name) : Fine (n + 1) (s.once name).1 := by
  by_cases h0 : s.flastName name < 0
  · have e : s.once name = (s, false, false) := by unfold St.once; simp only []; rw [if_pos h0]
    rw [e]; exact hf.mono (by omega)
  by_cases h1 : s.index (s.flastName name) < 0
  · have e : s.once name = (s.fremove (s.flastName name), false, true) := by unfold St.once; simp only []; rw [if_neg h0, if_pos h1]
    rw [e]; exact (hf.fremove _).mono (by omega)
  cases h2 : s.hasNode 0 (s.flastName name)
  · have e : s.once name = (s, false, true) := by unfold St.once; simp only []; rw [if_neg h0, if_neg h1, h2]; rfl
    rw [e]; exact hf.mono (by omega)
  by_cases h3 : s.furthest (s.index (s.flastName name)) < 0
  · have e : s.once name = ((s.popTo (s.index (s.flastName name))).fremove (s.flastName name), false, true) := by unfold St.once; simp only []; rw [if_neg h0, if_neg h1, h2]; simp only [Bool.not_true, Bool.false_eq_true, if_false]; rw [if_pos h3]
    rw [e]; exact ((hf.popTo _).fremove _).mono (by omega)
  rcases hok with h | h | h | h | ⟨h4, h5⟩
  · exact absurd h h0
  · exact absurd h h1
  · rw [h2] at h; cases h
  · exact absurd h h3
  · have e : s.once name = ((s.put (s.furthest (s.index (s.flastName name))) (s.at_ (s.index (s.flastName name) - 1))).renew (s.flastName name) (s.furthest (s.index (s.flastName name))) (s.findex (s.flastName name)), true, true) := by
      unfold St.once; simp only []; rw [if_neg h0, if_neg h1, h2]; simp only [Bool.not_true, Bool.false_eq_true, if_false]; rw [if_neg h3, inward_eq h4]
    rw [e]; exact fine_renew (hf.put _ _) h5
/-- What the restricted contracts ask of all rounds. -/
def RunOK (name : Str) : Nat → St → Prop
  | 0, _ => True
  | k + 1, s => OnceOK s name ∧ ((s.once name).2.1 = true → (s.once name).2.2 = true → RunOK name k (s.once name).1)
theorem fine_runGo (name : Str) : ∀ (k n : Nat) (s : St), Fine n s → RunOK name k s → Fine (n + k) (St.runGo name k s).1
  | 0, n, s, hf, _ => hf
  | k + 1, n, s, hf, hok => by
    have h1 := fine_once hf name hok.1
    unfold St.runGo
    simp only []
    split
    · exact h1.mono (by omega)
    · split
      · exact h1.mono (by omega)
      · rename_i h2 h3
        have := fine_runGo name k (n + 1) _ h1 (hok.2 (by simpa using h3) (by simpa using h2))
        exact this.mono (by omega)
def RunAll (s : St) (name : Str) : Prop := (s.is [name] && decide (s.findex s.top < 0)) = true ∨ RunOK name 8 s
theorem fine_run {n : Nat} {s : St} (hf : Fine n s) (name : Str) (hok : RunAll s name) : Fine (n + 8) (s.run name).1 := by
  unfold St.run
  by_cases h : (s.is [name] && decide (s.findex s.top < 0)) = true
  · rw [if_pos h]; exact hf.pop.mono (by omega)
  · rw [if_neg h]
    rcases hok with h' | h'
    · exact absurd h' h
    · exact fine_runGo name 8 n s hf h'
set_option maxRecDepth 100000 in
set_option maxHeartbeats 4000000 in
theorem run_is (h : BS w0 F w b a st l s) (name : Str) (h1 : s.is [name] = true) (h2 : s.findex s.top < 0) :
    Calls Tryz.prog 157 #[.pointer (some ⟨b, 0, none⟩), .string name] w fun e w' => e = .returned (.bool (s.run name).2) ∧ BS w0 F w' b a st l (s.run name).1 := by
  have e : s.run name = (s.pop, true) := by unfold St.run; rw [h1]; simp [h2]
  rw [e]
  have hI := fun W (k : BS w0 F W b a st l s) v hv => k.is_ v [name] hv
  rw [h1] at hI
  have HI := Lib.hid hI
  have HX := Lib.hid (fun W (k : BS w0 F W b a st l s) => k.findex_ s.top)
  have HT := Lib.hid (fun W (k : BS w0 F W b a st l s) => k.top_)
  clear hI h1 e
  generalize s.top = tp at *
  generalize s.findex tp = fx at *
  go_enter Tryz.func157, Tryz.ntmps157
  go_wp2_with (first | (go_at_call 17; refine (h.arena_).mono ?_; rintro e w' ⟨rfl, rfl⟩) | (go_at_call 21; refine (HI.out _ (h.al _) _ (strRow_at [name] (by simp) (by simp))).mono ?_; rintro e w1 ⟨rfl, k1⟩) | (go_at_call 132; refine (k1.formats_).mono ?_; rintro e w' ⟨rfl, rfl⟩) | (go_at_call 187; refine (HX.out _ k1).mono ?_; rintro e w2 ⟨rfl, k2⟩) | (go_at_call 111; refine (HT.out _ k1).mono ?_; rintro e w' ⟨rfl, rfl⟩) | (go_at_call 41; refine (k2.pop_).mono ?_; rintro e w3 ⟨rfl, k3⟩) | (go_at_call 19; first | (refine (k2.stack_).mono ?_; rintro e w' ⟨rfl, rfl⟩) | (refine (k1.stack_).mono ?_; rintro e w' ⟨rfl, rfl⟩)))
  go_ret
  exact ⟨rfl, k3⟩
/-- Run's rounds, from a state on. -/
theorem run_loop_step (name : Str) (k : Nat) (s : St) : St.runGo name (k + 1) s = if !(s.once name).2.2 then ((s.once name).1, false) else if !(s.once name).2.1 then ((s.once name).1, true) else St.runGo name k (s.once name).1 := rfl
set_option maxRecDepth 100000 in
set_option maxHeartbeats 8000000 in
theorem run_not (h : BS w0 F w b a st l s) (hf : Fine n s) (hn : n + 10 ≤ 1048576) (name : Str) (h1 : s.is [name] = false ∨ (s.is [name] = true ∧ ¬ s.findex s.top < 0)) (hok : RunOK name 8 s) :
    Calls Tryz.prog 157 #[.pointer (some ⟨b, 0, none⟩), .string name] w fun e w' => e = .returned (.bool (s.run name).2) ∧ BS w0 F w' b a st l (s.run name).1 := by
  have e : s.run name = St.runGo name 8 s := by
    unfold St.run
    rcases h1 with h1 | ⟨h1, h2⟩
    · rw [h1]; simp
    · rw [h1]; simp [h2]
  rw [e]
  have hI := fun W (k : BS w0 F W b a st l s) v hv => k.is_ v [name] hv
  have HX := Lib.hid (fun W (k : BS w0 F W b a st l s) => k.findex_ s.top)
  have HT := Lib.hid (fun W (k : BS w0 F W b a st l s) => k.top_)
  have HOK := Lib.hid hok
  clear e hok
  rcases h1 with h1 | ⟨h1, h2⟩
  all_goals (
    rw [h1] at hI
    have HI := Lib.hid hI
    clear hI h1
    generalize s.top = tp at *
    generalize s.findex tp = fx at *
    go_enter Tryz.func157, Tryz.ntmps157
    go_wp2_with (first | (go_at_call 17; refine (h.arena_).mono ?_; rintro e w' ⟨rfl, rfl⟩) | (go_at_call 21; refine (HI.out _ (h.al _) _ (strRow_at [name] (by simp) (by simp))).mono ?_; rintro e w1 ⟨rfl, k1⟩) | (go_at_call 132; refine (k1.formats_).mono ?_; rintro e w' ⟨rfl, rfl⟩) | (go_at_call 187; refine (HX.out _ k1).mono ?_; rintro e w2 ⟨rfl, k2⟩) | (go_at_call 111; refine (HT.out _ k1).mono ?_; rintro e w' ⟨rfl, rfl⟩) | (go_at_call 19; refine (k1.stack_).mono ?_; rintro e w' ⟨rfl, rfl⟩))
    go_loopw [26] (fun x wr => ∃ (j : Nat) (s1 : St), j ≤ 8 ∧ x = .int .i64 j ∧ Fine (n + j) s1 ∧ RunOK name (8 - j) s1 ∧ St.runGo name (8 - j) s1 = St.runGo name 8 s ∧ BS w0 F wr b a st l s1) (fun x _ => 8 - (intOf x).toNat)
    case atStart => exact ⟨0, s, by omega, rfl, hf, HOK.out, rfl, by first | exact k2 | exact k1⟩
    case round =>
      obtain ⟨j, s1, hj, rfl, hf1, ho1, hr1, hB⟩ := hrel
      clear HX HT HI h
      by_cases hlt : j < 8
      · obtain ⟨q, hq⟩ : ∃ q, 8 - j = q + 1 := ⟨8 - j - 1, by omega⟩
        have hq2 : 8 - (j + 1) = q := by omega
        rw [hq] at ho1 hr1
        rw [run_loop_step] at hr1
        have hc := once_c hB hf1 (by omega) name ho1.1
        have hfo := fine_once hf1 name ho1.1
        have ho2 := ho1.2
        have HQ2 := Lib.hid hq2; have HFO := Lib.hid hfo
        unfold OnceP at hc
        clear hq hq2 ho1 hfo
        generalize s1.once name = r at *
        obtain ⟨s2, more, done⟩ := r
        cases done
        · have HC := Lib.hid hc; have HR := Lib.hid hr1
          clear hc hr1 ho2
          go_wp2_with (go_at_call 193; refine (HC.out).mono ?_; rintro e w3 ⟨rfl, k3⟩)
          go_ret
          have hr := HR.out
          simp only [Bool.not_false, if_true] at hr
          exact ⟨by rw [← hr]; rfl, by rw [← hr]; exact k3⟩
        · cases more
          · have HC := Lib.hid hc; have HR := Lib.hid hr1
            clear hc hr1 ho2
            go_wp2_with (go_at_call 193; refine (HC.out).mono ?_; rintro e w3 ⟨rfl, k3⟩)
            go_ret
            have hr := HR.out
            simp only [Bool.not_true, Bool.false_eq_true, if_false, Bool.not_false, if_true] at hr
            exact ⟨by rw [← hr]; rfl, by rw [← hr]; exact k3⟩
          · have HC := Lib.hid hc; have HR := Lib.hid hr1; have HO2 := Lib.hid ho2
            clear hc hr1 ho2
            go_wp2_with (go_at_call 193; refine (HC.out).mono ?_; rintro e w3 ⟨rfl, k3⟩)
            go_roundw
            case rel =>
              have hr := HR.out
              simp only [Bool.not_true, Bool.false_eq_true, if_false] at hr
              exact ⟨j + 1, s2, by omega, by go_num, by have := HFO.out; rw [Nat.add_assoc] at this; exact this, by rw [HQ2.out]; (first | exact HO2.out rfl rfl | exact HO2.out trivial trivial), by rw [HQ2.out]; exact hr, k3⟩
            case measure => simp [intOf]; omega
      · have hj8 : 8 - j = 0 := by omega
        rw [hj8] at hr1
        have HR := Lib.hid hr1
        clear hr1 ho1
        go_wp2
        go_ret
        have hr : (s1, true) = St.runGo name 8 s := HR.out
        exact ⟨by rw [← hr]; rfl, by rw [← hr]; exact hB⟩)
theorem run_c (h : BS w0 F w b a st l s) (hf : Fine n s) (hn : n + 10 ≤ 1048576) (name : Str) (hok : RunAll s name) :
    Calls Tryz.prog 157 #[.pointer (some ⟨b, 0, none⟩), .string name] w fun e w' => e = .returned (.bool (s.run name).2) ∧ BS w0 F w' b a st l (s.run name).1 := by
  rcases hok with hok | hok
  · rw [Bool.and_eq_true, decide_eq_true_eq] at hok
    exact run_is h name hok.1 hok.2
  · cases h1 : s.is [name]
    · exact run_not h hf hn name (.inl h1) hok
    · by_cases h2 : s.findex s.top < 0
      · exact run_is h name h1 h2
      · exact run_not h hf hn name (.inr ⟨h1, h2⟩) hok
set_option maxRecDepth 100000 in
set_option maxHeartbeats 1000000 in
theorem formatted_c (h : BS w0 F w b a st l s) (hf : Fine n s) (hn : n + 10 ≤ 1048576) (t : Tok) (hok : RunAll s t.name) :
    Calls Tryz.prog 100 #[.pointer (some ⟨b, 0, none⟩), tokV t] w fun e w' => e = .returned (.tuple #[]) ∧ BS w0 F w' b a st l (s.formatted t.name) := by
  have h0 := h.enter (bel_alloc w (tokO t))
  have hR := run_c h0 hf hn t.name hok
  have hfr := fine_run hf t.name hok
  have e : s.formatted t.name = if (s.run t.name).2 then (s.run t.name).1 else (s.run t.name).1.other t.name := rfl
  have HE := Lib.hid e
  clear e
  generalize s.run t.name = r at *
  obtain ⟨s1, ok⟩ := r
  have HO := Lib.hid (fun W (k : BS (w.alloc (tokO t)) (grow F w0 w) W b a st l s1) => other_c k hfr t.name)
  cases ok
  · have HR := Lib.hid hR
    clear hR
    go_enter Tryz.func100, Tryz.ntmps100
    go_wp2_with (first | (go_at_call 157; refine (HR.out).mono ?_; rintro e w1 ⟨rfl, h1⟩; have hbx := h.boxed h1) | (go_at_call 33; refine (HO.out _ h1).mono ?_; rintro e w2 ⟨rfl, h2⟩))
    go_end0
    exact ⟨rfl, h.sub (bel_alloc w (tokO t)) (by rw [HE.out]; exact h2)⟩
  · have HR := Lib.hid hR
    clear hR
    go_enter Tryz.func100, Tryz.ntmps100
    go_wp2_with (first | (go_at_call 157; refine (HR.out).mono ?_; rintro e w1 ⟨rfl, h1⟩; have hbx := h.boxed h1) | (go_at_call 33; refine (HO.out _ h1).mono ?_; rintro e w2 ⟨rfl, h2⟩))
    go_end0
    exact ⟨rfl, h.sub (bel_alloc w (tokO t)) (by rw [HE.out]; exact h1)⟩
end Go.Proofs.YtgaebaokcjhcdaaGreatDoor

/- bodies: link, item. -/
set_option linter.unusedVariables false
set_option linter.unusedSimpArgs false
namespace Go.Proofs.YtgaebaokcjhcdaaGreatDoor
open Go.RowKit Lz
variable {w0 w w' : World} {F : Nat → Prop} {b a st l n : Nat} {s s' : St}

theorem Lz.Fine.otherFrom {n : Nat} {s : St} (h : Fine n s) (name : Str) : ∀ k, Fine n (s.otherFrom name k)
  | 0 => h
  | k + 1 => by
    unfold St.otherFrom
    simp only []
    split
    · exact (h.implied _).popTo _
    · split
      · exact h
      · exact Lz.Fine.otherFrom h name k
theorem Lz.Fine.other {n : Nat} {s : St} (h : Fine n s) (name : Str) : Fine n (s.other name) := h.otherFrom name _
theorem fine_formatted {n : Nat} {s : St} (hf : Fine n s) (name : Str) (hok : RunAll s name) : Fine (n + 8) (s.formatted name) := by
  have h := fine_run hf name hok
  unfold St.formatted
  simp only []
  split
  · exact h
  · exact h.other name
def St.link1 (s : St) (t : Tok) : St := if 0 ≤ s.flastName n_a then ((s.formatted t.name).fremove (s.flastName n_a)).remove (s.flastName n_a) else s
def St.link (s : St) (t : Tok) : St := St.format (St.link1 s t) t
theorem fine_link1 {n : Nat} {s : St} (hf : Fine n s) (t : Tok) (hok : 0 ≤ s.flastName n_a → RunAll s t.name) : Fine (n + 8) (St.link1 s t) := by
  unfold St.link1
  split
  · exact ((fine_formatted hf t.name (hok ‹_›)).fremove _).remove _
  · exact hf.mono (by omega)
set_option maxRecDepth 100000 in
set_option maxHeartbeats 4000000 in
theorem link_c (h : BS w0 F w b a st l s) (hf : Fine n s) (hn : n + 20 ≤ 1048576) (t : Tok) (ht : TagOK t) (hok : 0 ≤ s.flastName n_a → RunAll s t.name) (hr : Reb (St.link1 s t)) (hp : Psh ((St.link1 s t).rebuild.ins t 0)) :
    Calls Tryz.prog 78 #[.pointer (some ⟨b, 0, none⟩), tokV t] w fun e w' => e = .returned (.tuple #[]) ∧ BS w0 F w' b a st l (St.link s t) := by
  have h0 := h.enter (bel_alloc w (tokO t))
  have HFM := Lib.hid (fun W (k : BS (w.alloc (tokO t)) (grow F w0 w) W b a st l (St.link1 s t)) => format_c k (fine_link1 hf t hok) (by omega) hr t ht hp)
  have HL := Lib.hid (h0.flastName_ n_a)
  have HFD := Lib.hid (fun W (k : BS (w.alloc (tokO t)) (grow F w0 w) W b a st l s) (h2 : 0 ≤ s.flastName n_a) => formatted_c k hf (by omega) t (hok h2))
  have HE : Hid (St.link1 s t = if 0 ≤ s.flastName n_a then ((s.formatted t.name).fremove (s.flastName n_a)).remove (s.flastName n_a) else s) := rfl
  have HQ : Hid (St.link s t = St.format (St.link1 s t) t) := rfl
  clear hr hp hok
  generalize s.flastName n_a = f at *
  by_cases hf0 : 0 ≤ f
  · have HFM := Lib.hid (fun W k => HFM.out W (by rw [HE.out, if_pos hf0]; exact k))
    have HFD := Lib.hid (fun W k => HFD.out W k hf0)
    go_enter Tryz.func78, Tryz.ntmps78
    go_wp2_with (first | (go_at_call 132; first | (refine (h2.formats_).mono ?_; rintro e w' ⟨rfl, rfl⟩) | (refine (h0.formats_).mono ?_; rintro e w' ⟨rfl, rfl⟩)) | (go_at_call 146; refine (HL.out).mono ?_; rintro e w1 ⟨rfl, h1⟩; have hbx1 := h.boxed h1) | (go_at_call 100; refine (HFD.out _ h1).mono ?_; rintro e w2 ⟨rfl, h2⟩; have hbx2 := h.boxed h2) | (go_at_call 147; refine (h2.fremove_ f).mono ?_; rintro e w3 ⟨rfl, h3⟩; have hbx3 := h.boxed h3) | (go_at_call 19; refine (h3.stack_).mono ?_; rintro e w' ⟨rfl, rfl⟩) | (go_at_call 148; refine (h3.remove_ f).mono ?_; rintro e w4 ⟨rfl, h4⟩; have hbx4 := h.boxed h4) | (go_at_call 79; refine (HFM.out _ h4).mono ?_; rintro e w5 ⟨rfl, h5⟩))
    go_end0
    exact ⟨rfl, h.sub (bel_alloc w (tokO t)) (by rw [HQ.out]; exact h5)⟩
  · have HFM := Lib.hid (fun W k => HFM.out W (by rw [HE.out, if_neg hf0]; exact k))
    go_enter Tryz.func78, Tryz.ntmps78
    go_wp2_with (first | (go_at_call 132; refine (h0.formats_).mono ?_; rintro e w' ⟨rfl, rfl⟩) | (go_at_call 146; refine (HL.out).mono ?_; rintro e w1 ⟨rfl, h1⟩; have hbx1 := h.boxed h1) | (go_at_call 79; refine (HFM.out _ h1).mono ?_; rintro e w5 ⟨rfl, h5⟩))
    go_end0
    exact ⟨rfl, h.sub (bel_alloc w (tokO t)) (by rw [HQ.out]; exact h5)⟩
end Go.Proofs.YtgaebaokcjhcdaaGreatDoor

/- bodies: a list's item. -/
set_option linter.unusedVariables false
set_option linter.unusedSimpArgs false
namespace Go.Proofs.YtgaebaokcjhcdaaGreatDoor
open Go.RowKit Lz
variable {w0 w w' : World} {F : Nat → Prop} {b a st l n : Nat} {s s' : St}

abbrev nodeO (n : Nd) (A1 : Option Addr) (z1 : Nat) (A2 : Option Addr) (z2 : Nat) : Obj := .cells #[.int .i64 n.kind, .string n.name, .string n.text, .int .i64 n.space, .slice A1 n.attrs.length z1, .bool n.dup, .int .i64 n.parent, .int .i64 n.content, .slice A2 n.kids.length z2, .int .i64 n.frm, .int .i64 n.to] 54 (0, 0)
def adp (x : Str) : Bool := x == n_address || x == n_div || x == n_p
def St.itemFrom (s : St) (names : List Str) : Nat → St
  | 0 => s
  | k + 1 =>
    if (s.node (s.at_ (k : Int))).space == 0 && names.contains (s.node (s.at_ (k : Int))).name then (s.implied (s.node (s.at_ (k : Int))).name).until_ [(s.node (s.at_ (k : Int))).name]
    else if (s.node (s.at_ (k : Int))).space == 0 && adp (s.node (s.at_ (k : Int))).name then St.itemFrom s names k
    else if special (s.node (s.at_ (k : Int))).space (s.node (s.at_ (k : Int))).name then s else St.itemFrom s names k
def St.item (s : St) (names : List Str) (t : Tok) : St := St.block (St.itemFrom s names s.stk.length) t
theorem Lz.Fine.itemFrom {n : Nat} {s : St} (h : Fine n s) (names : List Str) : ∀ k, Fine n (St.itemFrom s names k)
  | 0 => h
  | k + 1 => by
    unfold St.itemFrom
    split
    · exact (h.implied _).until_ _
    · split
      · exact Lz.Fine.itemFrom h names k
      · split
        · exact h
        · exact Lz.Fine.itemFrom h names k
set_option maxRecDepth 100000 in
set_option maxHeartbeats 4000000 in
theorem item1_c (h : BS w0 F w b a st l s) (hf : Fine n s) (hn : n + 2 ≤ 1048576) (t : Tok) (ht : TagOK t) (names : List Str) (p : Nat) (v : Value) (hp : w.heap[p]? = some (.cells #[v] 40 (0, 0))) (hv : StrRow w v names)
    (hpk : ∀ w1, BS (w.alloc (tokO t)) (grow F w0 w) w1 b a st l s → w1.heap[p]? = some (.cells #[v] 40 (0, 0)) ∧ StrRow w1 v names) :
    Calls Tryz.prog 143 #[.pointer (some ⟨b, 0, none⟩), tokV t, .pointer (some ⟨p, 0, none⟩)] w fun e w' => e = .returned (.tuple #[]) ∧ BS w0 F w' b a st l (St.item s names t) := by
  have h0 := h.enter (bel_alloc w (tokO t))
  have hsm := h.small
  have wk : IntKind.i64.wrap ((s.stk.length : Int) - 1) = (s.stk.length : Int) - 1 := IntWalk.i64_in _ (by omega)
  go_enter Tryz.func143, Tryz.ntmps143
  go_wp2
  go_step3
  go_wp2_with (go_at_call 19; refine (h0.stack_).mono ?_; rintro e w' ⟨rfl, rfl⟩)
  go_step3
  go_wp2_with (go_at_call 20; refine (h0.len_).mono ?_; rintro e w' ⟨rfl, rfl⟩)
  have HPK := Lib.hid hpk
  have HBK := Lib.hid (fun W (k : BS (w.alloc (tokO t)) (grow F w0 w) W b a st l (St.itemFrom s names s.stk.length)) => block_c k (hf.itemFrom names s.stk.length) hn t ht)
  have HQ : Hid (St.item s names t = St.block (St.itemFrom s names s.stk.length) t) := rfl
  clear hp hv
  go_loopw [6] (fun x wr => ∃ m : Nat, m ≤ s.stk.length ∧ x = .int .i64 ((m : Int) - 1) ∧ St.itemFrom s names m = St.itemFrom s names s.stk.length ∧ BS (w.alloc (tokO t)) (grow F w0 w) wr b a st l s) (fun x _ => (intOf x + 1).toNat)
  case atStart => exact ⟨s.stk.length, Nat.le_refl _, rfl, rfl, h0⟩
  case round =>
    obtain ⟨m, hm, rfl, hfu, hB⟩ := hrel
    clear wk h0
    cases m with
    | zero =>
      have HT := Lib.hid hfu
      have hbx := h.boxed hB
      clear hfu
      go_wp2_with (go_at_call 71; refine (HBK.out _ (by rw [← HT.out]; exact hB)).mono ?_; rintro e w6 ⟨rfl, h6⟩)
      rw [Exit.noGoto_normal]
      go_end0
      exact ⟨rfl, h.sub (bel_alloc w (tokO t)) (by rw [HQ.out]; exact h6)⟩
    | succ m =>
      have e1 : ((m + 1 : Nat) : Int) - 1 = (m : Int) := by omega
      rw [e1]
      have hst : St.itemFrom s names (m + 1) = if (s.node (s.at_ (m : Int))).space == 0 && names.contains (s.node (s.at_ (m : Int))).name then (s.implied (s.node (s.at_ (m : Int))).name).until_ [(s.node (s.at_ (m : Int))).name]
          else if (s.node (s.at_ (m : Int))).space == 0 && adp (s.node (s.at_ (m : Int))).name then St.itemFrom s names m
          else if special (s.node (s.at_ (m : Int))).space (s.node (s.at_ (m : Int))).name then s else St.itemFrom s names m := rfl
      rw [hst] at hfu
      have HA := Lib.hid (hB.at_ (m : Int)); have HN := Lib.hid (hB.node_ (s.at_ (m : Int)))
      have hSp := fun W (hg : Glob W) => special_c W (s.node (s.at_ (m : Int))).space (s.node (s.at_ (m : Int))).name hg (hf.nms _)
      have hC := fun W (k : BS (w.alloc (tokO t)) (grow F w0 w) W b a st l s) => hasStr_c W v names (s.node (s.at_ (m : Int))).name (HPK.out W k).2
      have HI := Lib.hid (fun W0 F0 W (k : BS W0 F0 W b a st l s) => k.implied_ hf.names (s.node (s.at_ (m : Int))).name)
      have HU := Lib.hid (fun W0 F0 W (k : BS W0 F0 W b a st l (s.implied (s.node (s.at_ (m : Int))).name)) u hu => k.until__ u [(s.node (s.at_ (m : Int))).name] hu)
      have wj : IntKind.i64.wrap ((m : Int) - 1) = (m : Int) - 1 := IntWalk.i64_in _ (by omega)
      clear hst e1
      generalize hi : s.at_ (m : Int) = i at *
      clear hi
      generalize s.node i = nn at *
      cases hsp : nn.space == 0
      · rw [hsp, Bool.false_and, Bool.false_and] at hfu
        have hsp2 : (nn.space == 0) = false := hsp
        simp only [Bool.false_eq_true, if_false] at hfu
        cases hb : special nn.space nn.name
        · rw [hb] at hSp hfu
          have HFU := Lib.hid hfu; have HC := Lib.hid hC
          have HSP := Lib.hid hSp
          clear hfu hC hSp hb hsp
          go_wp2_with (first | (go_at_call 17; refine (hB.arena_).mono ?_; rintro e w' ⟨rfl, rfl⟩) | (go_at_call 49; refine (HA.out).mono ?_; rintro e w' ⟨rfl, rfl⟩) | (go_at_call 46; refine (HN.out).mono ?_; rintro e w1 ⟨v1, rfl, ⟨va, vk2, rfl, hVa, hVk⟩, hB1⟩; obtain ⟨A1, z1, rfl⟩ := hVa.shape; obtain ⟨A2, z2, rfl⟩ := hVk.shape; unfold ndCells; have cp : w1.cell? ⟨p, 0, none⟩ = some v := blk_cell (hpk _ hB1).1 0; have pl := (Array.getElem?_eq_some_iff.1 (hpk _ hB1).1).1; have hbx1 := h.boxed hB1; have hwl : w.heap.size < w1.heap.size := Nat.lt_of_lt_of_le (lt_al w _) hB1.size) | (go_at_call 114; refine (HC.out _ (hB1.bel (by repeat (first | exact Below.refl _ _ | exact bel_alloc _ _ | (refine bel_set ?_ (by simp only; omega)))))).mono ?_; rintro e w2 ⟨rfl, rfl⟩) | (go_at_call 106; refine (HSP.out _ (hB1.bel (by repeat (first | exact Below.refl _ _ | exact bel_alloc _ _ | (refine bel_set ?_ (by simp only; omega))))).glob).mono ?_; rintro e w2 ⟨rfl, rfl⟩) | (go_at_call 104; have kE := hB1.enter (bel_alloc w1 (nodeO nn A1 z1 A2 z2)); refine (HI.out _ _ _ kE).mono ?_; rintro e w4 ⟨rfl, k4⟩; have hbn4 := hB1.boxed k4) | (go_at_call 131; refine (HU.out _ _ _ (k4.al _) _ (strRow_at [_] (by simp) (by simp))).mono ?_; rintro e w5 ⟨rfl, k5⟩; have hB5 := hB1.sub (bel_alloc w1 (nodeO nn A1 z1 A2 z2)) k5; have hbx5 := h.boxed hB5) | (go_at_call 71; first | (refine (HBK.out _ (by rw [← HFU.out]; exact hB5)).mono ?_; rintro e w6 ⟨rfl, h6⟩) | (refine (HBK.out _ (by rw [← HFU.out]; exact hB1.bel (by repeat (first | exact Below.refl _ _ | exact bel_alloc _ _ | (refine bel_set ?_ (by simp only; omega)))))).mono ?_; rintro e w6 ⟨rfl, h6⟩)))
          go_roundw
          case rel => exact ⟨m, by omega, rfl, HFU.out, hB1.bel (by repeat (first | exact Below.refl _ _ | exact bel_alloc _ _ | (refine bel_set ?_ (by simp only; omega))))⟩
          case measure => simp [intOf]
        · rw [hb] at hSp hfu
          have HFU := Lib.hid hfu; have HC := Lib.hid hC
          have HSP := Lib.hid hSp
          clear hfu hC hSp hb hsp
          go_wp2_with (first | (go_at_call 17; refine (hB.arena_).mono ?_; rintro e w' ⟨rfl, rfl⟩) | (go_at_call 49; refine (HA.out).mono ?_; rintro e w' ⟨rfl, rfl⟩) | (go_at_call 46; refine (HN.out).mono ?_; rintro e w1 ⟨v1, rfl, ⟨va, vk2, rfl, hVa, hVk⟩, hB1⟩; obtain ⟨A1, z1, rfl⟩ := hVa.shape; obtain ⟨A2, z2, rfl⟩ := hVk.shape; unfold ndCells; have cp : w1.cell? ⟨p, 0, none⟩ = some v := blk_cell (hpk _ hB1).1 0; have pl := (Array.getElem?_eq_some_iff.1 (hpk _ hB1).1).1; have hbx1 := h.boxed hB1; have hwl : w.heap.size < w1.heap.size := Nat.lt_of_lt_of_le (lt_al w _) hB1.size) | (go_at_call 114; refine (HC.out _ (hB1.bel (by repeat (first | exact Below.refl _ _ | exact bel_alloc _ _ | (refine bel_set ?_ (by simp only; omega)))))).mono ?_; rintro e w2 ⟨rfl, rfl⟩) | (go_at_call 106; refine (HSP.out _ (hB1.bel (by repeat (first | exact Below.refl _ _ | exact bel_alloc _ _ | (refine bel_set ?_ (by simp only; omega))))).glob).mono ?_; rintro e w2 ⟨rfl, rfl⟩) | (go_at_call 104; have kE := hB1.enter (bel_alloc w1 (nodeO nn A1 z1 A2 z2)); refine (HI.out _ _ _ kE).mono ?_; rintro e w4 ⟨rfl, k4⟩; have hbn4 := hB1.boxed k4) | (go_at_call 131; refine (HU.out _ _ _ (k4.al _) _ (strRow_at [_] (by simp) (by simp))).mono ?_; rintro e w5 ⟨rfl, k5⟩; have hB5 := hB1.sub (bel_alloc w1 (nodeO nn A1 z1 A2 z2)) k5; have hbx5 := h.boxed hB5) | (go_at_call 71; first | (refine (HBK.out _ (by rw [← HFU.out]; exact hB5)).mono ?_; rintro e w6 ⟨rfl, h6⟩) | (refine (HBK.out _ (by rw [← HFU.out]; exact hB1.bel (by repeat (first | exact Below.refl _ _ | exact bel_alloc _ _ | (refine bel_set ?_ (by simp only; omega)))))).mono ?_; rintro e w6 ⟨rfl, h6⟩)))
          rw [Exit.noGoto_normal]
          go_end0
          exact ⟨rfl, h.sub (bel_alloc w (tokO t)) (by rw [HQ.out]; exact h6)⟩
      · have hsp3 : nn.space = 0 := by simpa using hsp
        rw [hsp, Bool.true_and, Bool.true_and] at hfu
        cases hcn : names.contains nn.name
        · rw [hcn] at hfu hC
          simp only [Bool.false_eq_true, if_false] at hfu
          cases g1 : nn.name.toList == [97, 100, 100, 114, 101, 115, 115]
          · cases g2 : nn.name.toList == [100, 105, 118]
            · cases g3 : nn.name.toList == [112]
              · have ga : adp nn.name = false := by
                  have k1 := beqD nn.name n_address; have k2 := beqD nn.name n_div; have k3 := beqD nn.name n_p
                  unfold adp; rw [← k1, ← k2, ← k3]
                  have g1' : (nn.name.toList == n_address.data.toList) = false := g1
                  have g2' : (nn.name.toList == n_div.data.toList) = false := g2
                  have g3' : (nn.name.toList == n_p.data.toList) = false := g3
                  rw [g1', g2', g3']; rfl
                rw [ga] at hfu
                simp only [Bool.false_eq_true, if_false] at hfu
                clear ga
                cases hb : special nn.space nn.name
                · rw [hb] at hSp hfu
                  have HFU := Lib.hid hfu; have HC := Lib.hid hC; have HS3 := Lib.hid hsp3
                  have HSP := Lib.hid hSp
                  clear hfu hC hSp hb hsp3 hcn
                  go_wp2_with (first | (go_at_call 17; refine (hB.arena_).mono ?_; rintro e w' ⟨rfl, rfl⟩) | (go_at_call 49; refine (HA.out).mono ?_; rintro e w' ⟨rfl, rfl⟩) | (go_at_call 46; refine (HN.out).mono ?_; rintro e w1 ⟨v1, rfl, ⟨va, vk2, rfl, hVa, hVk⟩, hB1⟩; obtain ⟨A1, z1, rfl⟩ := hVa.shape; obtain ⟨A2, z2, rfl⟩ := hVk.shape; unfold ndCells; have cp : w1.cell? ⟨p, 0, none⟩ = some v := blk_cell (hpk _ hB1).1 0; have pl := (Array.getElem?_eq_some_iff.1 (hpk _ hB1).1).1; have hbx1 := h.boxed hB1; have hwl : w.heap.size < w1.heap.size := Nat.lt_of_lt_of_le (lt_al w _) hB1.size) | (go_at_call 114; refine (HC.out _ (hB1.bel (by repeat (first | exact Below.refl _ _ | exact bel_alloc _ _ | (refine bel_set ?_ (by simp only; omega)))))).mono ?_; rintro e w2 ⟨rfl, rfl⟩) | (go_at_call 106; refine (HSP.out _ (hB1.bel (by repeat (first | exact Below.refl _ _ | exact bel_alloc _ _ | (refine bel_set ?_ (by simp only; omega))))).glob).mono ?_; rintro e w2 ⟨rfl, rfl⟩) | (go_at_call 104; have kE := hB1.enter (bel_alloc w1 (nodeO nn A1 z1 A2 z2)); refine (HI.out _ _ _ kE).mono ?_; rintro e w4 ⟨rfl, k4⟩; have hbn4 := hB1.boxed k4) | (go_at_call 131; refine (HU.out _ _ _ (k4.al _) _ (strRow_at [_] (by simp) (by simp))).mono ?_; rintro e w5 ⟨rfl, k5⟩; have hB5 := hB1.sub (bel_alloc w1 (nodeO nn A1 z1 A2 z2)) k5; have hbx5 := h.boxed hB5) | (go_at_call 71; first | (refine (HBK.out _ (by rw [← HFU.out]; exact hB5)).mono ?_; rintro e w6 ⟨rfl, h6⟩) | (refine (HBK.out _ (by rw [← HFU.out]; exact hB1.bel (by repeat (first | exact Below.refl _ _ | exact bel_alloc _ _ | (refine bel_set ?_ (by simp only; omega)))))).mono ?_; rintro e w6 ⟨rfl, h6⟩)))
                  go_roundw
                  case rel => exact ⟨m, by omega, rfl, HFU.out, hB1.bel (by repeat (first | exact Below.refl _ _ | exact bel_alloc _ _ | (refine bel_set ?_ (by simp only; omega))))⟩
                  case measure => simp [intOf]
                · rw [hb] at hSp hfu
                  have HFU := Lib.hid hfu; have HC := Lib.hid hC; have HS3 := Lib.hid hsp3
                  have HSP := Lib.hid hSp
                  clear hfu hC hSp hb hsp3 hcn
                  go_wp2_with (first | (go_at_call 17; refine (hB.arena_).mono ?_; rintro e w' ⟨rfl, rfl⟩) | (go_at_call 49; refine (HA.out).mono ?_; rintro e w' ⟨rfl, rfl⟩) | (go_at_call 46; refine (HN.out).mono ?_; rintro e w1 ⟨v1, rfl, ⟨va, vk2, rfl, hVa, hVk⟩, hB1⟩; obtain ⟨A1, z1, rfl⟩ := hVa.shape; obtain ⟨A2, z2, rfl⟩ := hVk.shape; unfold ndCells; have cp : w1.cell? ⟨p, 0, none⟩ = some v := blk_cell (hpk _ hB1).1 0; have pl := (Array.getElem?_eq_some_iff.1 (hpk _ hB1).1).1; have hbx1 := h.boxed hB1; have hwl : w.heap.size < w1.heap.size := Nat.lt_of_lt_of_le (lt_al w _) hB1.size) | (go_at_call 114; refine (HC.out _ (hB1.bel (by repeat (first | exact Below.refl _ _ | exact bel_alloc _ _ | (refine bel_set ?_ (by simp only; omega)))))).mono ?_; rintro e w2 ⟨rfl, rfl⟩) | (go_at_call 106; refine (HSP.out _ (hB1.bel (by repeat (first | exact Below.refl _ _ | exact bel_alloc _ _ | (refine bel_set ?_ (by simp only; omega))))).glob).mono ?_; rintro e w2 ⟨rfl, rfl⟩) | (go_at_call 104; have kE := hB1.enter (bel_alloc w1 (nodeO nn A1 z1 A2 z2)); refine (HI.out _ _ _ kE).mono ?_; rintro e w4 ⟨rfl, k4⟩; have hbn4 := hB1.boxed k4) | (go_at_call 131; refine (HU.out _ _ _ (k4.al _) _ (strRow_at [_] (by simp) (by simp))).mono ?_; rintro e w5 ⟨rfl, k5⟩; have hB5 := hB1.sub (bel_alloc w1 (nodeO nn A1 z1 A2 z2)) k5; have hbx5 := h.boxed hB5) | (go_at_call 71; first | (refine (HBK.out _ (by rw [← HFU.out]; exact hB5)).mono ?_; rintro e w6 ⟨rfl, h6⟩) | (refine (HBK.out _ (by rw [← HFU.out]; exact hB1.bel (by repeat (first | exact Below.refl _ _ | exact bel_alloc _ _ | (refine bel_set ?_ (by simp only; omega)))))).mono ?_; rintro e w6 ⟨rfl, h6⟩)))
                  rw [Exit.noGoto_normal]
                  go_end0
                  exact ⟨rfl, h.sub (bel_alloc w (tokO t)) (by rw [HQ.out]; exact h6)⟩
              · have ga : adp nn.name = true := by
                  have k3 := beqD nn.name n_p
                  have g3' : (nn.name.toList == n_p.data.toList) = true := g3
                  unfold adp; rw [← k3, g3']; simp
                rw [ga] at hfu
                simp only [if_true] at hfu
                clear ga
                have HFU := Lib.hid hfu; have HC := Lib.hid hC; have HS3 := Lib.hid hsp3
                have HSP := Lib.hid hSp
                clear hfu hC hSp hsp3 hcn
                go_wp2_with (first | (go_at_call 17; refine (hB.arena_).mono ?_; rintro e w' ⟨rfl, rfl⟩) | (go_at_call 49; refine (HA.out).mono ?_; rintro e w' ⟨rfl, rfl⟩) | (go_at_call 46; refine (HN.out).mono ?_; rintro e w1 ⟨v1, rfl, ⟨va, vk2, rfl, hVa, hVk⟩, hB1⟩; obtain ⟨A1, z1, rfl⟩ := hVa.shape; obtain ⟨A2, z2, rfl⟩ := hVk.shape; unfold ndCells; have cp : w1.cell? ⟨p, 0, none⟩ = some v := blk_cell (hpk _ hB1).1 0; have pl := (Array.getElem?_eq_some_iff.1 (hpk _ hB1).1).1; have hbx1 := h.boxed hB1; have hwl : w.heap.size < w1.heap.size := Nat.lt_of_lt_of_le (lt_al w _) hB1.size) | (go_at_call 114; refine (HC.out _ (hB1.bel (by repeat (first | exact Below.refl _ _ | exact bel_alloc _ _ | (refine bel_set ?_ (by simp only; omega)))))).mono ?_; rintro e w2 ⟨rfl, rfl⟩) | (go_at_call 106; refine (HSP.out _ (hB1.bel (by repeat (first | exact Below.refl _ _ | exact bel_alloc _ _ | (refine bel_set ?_ (by simp only; omega))))).glob).mono ?_; rintro e w2 ⟨rfl, rfl⟩) | (go_at_call 104; have kE := hB1.enter (bel_alloc w1 (nodeO nn A1 z1 A2 z2)); refine (HI.out _ _ _ kE).mono ?_; rintro e w4 ⟨rfl, k4⟩; have hbn4 := hB1.boxed k4) | (go_at_call 131; refine (HU.out _ _ _ (k4.al _) _ (strRow_at [_] (by simp) (by simp))).mono ?_; rintro e w5 ⟨rfl, k5⟩; have hB5 := hB1.sub (bel_alloc w1 (nodeO nn A1 z1 A2 z2)) k5; have hbx5 := h.boxed hB5) | (go_at_call 71; first | (refine (HBK.out _ (by rw [← HFU.out]; exact hB5)).mono ?_; rintro e w6 ⟨rfl, h6⟩) | (refine (HBK.out _ (by rw [← HFU.out]; exact hB1.bel (by repeat (first | exact Below.refl _ _ | exact bel_alloc _ _ | (refine bel_set ?_ (by simp only; omega)))))).mono ?_; rintro e w6 ⟨rfl, h6⟩)))
                go_roundw
                case rel => exact ⟨m, by omega, rfl, HFU.out, hB1.bel (by repeat (first | exact Below.refl _ _ | exact bel_alloc _ _ | (refine bel_set ?_ (by simp only; omega))))⟩
                case measure => simp [intOf]
            · have ga : adp nn.name = true := by
                have k3 := beqD nn.name n_div
                have g3' : (nn.name.toList == n_div.data.toList) = true := g2
                unfold adp; rw [← k3, g3']; simp
              rw [ga] at hfu
              simp only [if_true] at hfu
              clear ga
              have HFU := Lib.hid hfu; have HC := Lib.hid hC; have HS3 := Lib.hid hsp3
              have HSP := Lib.hid hSp
              clear hfu hC hSp hsp3 hcn
              go_wp2_with (first | (go_at_call 17; refine (hB.arena_).mono ?_; rintro e w' ⟨rfl, rfl⟩) | (go_at_call 49; refine (HA.out).mono ?_; rintro e w' ⟨rfl, rfl⟩) | (go_at_call 46; refine (HN.out).mono ?_; rintro e w1 ⟨v1, rfl, ⟨va, vk2, rfl, hVa, hVk⟩, hB1⟩; obtain ⟨A1, z1, rfl⟩ := hVa.shape; obtain ⟨A2, z2, rfl⟩ := hVk.shape; unfold ndCells; have cp : w1.cell? ⟨p, 0, none⟩ = some v := blk_cell (hpk _ hB1).1 0; have pl := (Array.getElem?_eq_some_iff.1 (hpk _ hB1).1).1; have hbx1 := h.boxed hB1; have hwl : w.heap.size < w1.heap.size := Nat.lt_of_lt_of_le (lt_al w _) hB1.size) | (go_at_call 114; refine (HC.out _ (hB1.bel (by repeat (first | exact Below.refl _ _ | exact bel_alloc _ _ | (refine bel_set ?_ (by simp only; omega)))))).mono ?_; rintro e w2 ⟨rfl, rfl⟩) | (go_at_call 106; refine (HSP.out _ (hB1.bel (by repeat (first | exact Below.refl _ _ | exact bel_alloc _ _ | (refine bel_set ?_ (by simp only; omega))))).glob).mono ?_; rintro e w2 ⟨rfl, rfl⟩) | (go_at_call 104; have kE := hB1.enter (bel_alloc w1 (nodeO nn A1 z1 A2 z2)); refine (HI.out _ _ _ kE).mono ?_; rintro e w4 ⟨rfl, k4⟩; have hbn4 := hB1.boxed k4) | (go_at_call 131; refine (HU.out _ _ _ (k4.al _) _ (strRow_at [_] (by simp) (by simp))).mono ?_; rintro e w5 ⟨rfl, k5⟩; have hB5 := hB1.sub (bel_alloc w1 (nodeO nn A1 z1 A2 z2)) k5; have hbx5 := h.boxed hB5) | (go_at_call 71; first | (refine (HBK.out _ (by rw [← HFU.out]; exact hB5)).mono ?_; rintro e w6 ⟨rfl, h6⟩) | (refine (HBK.out _ (by rw [← HFU.out]; exact hB1.bel (by repeat (first | exact Below.refl _ _ | exact bel_alloc _ _ | (refine bel_set ?_ (by simp only; omega)))))).mono ?_; rintro e w6 ⟨rfl, h6⟩)))
              go_roundw
              case rel => exact ⟨m, by omega, rfl, HFU.out, hB1.bel (by repeat (first | exact Below.refl _ _ | exact bel_alloc _ _ | (refine bel_set ?_ (by simp only; omega))))⟩
              case measure => simp [intOf]
          · have ga : adp nn.name = true := by
              have k3 := beqD nn.name n_address
              have g3' : (nn.name.toList == n_address.data.toList) = true := g1
              unfold adp; rw [← k3, g3']; simp
            rw [ga] at hfu
            simp only [if_true] at hfu
            clear ga
            have HFU := Lib.hid hfu; have HC := Lib.hid hC; have HS3 := Lib.hid hsp3
            have HSP := Lib.hid hSp
            clear hfu hC hSp hsp3 hcn
            go_wp2_with (first | (go_at_call 17; refine (hB.arena_).mono ?_; rintro e w' ⟨rfl, rfl⟩) | (go_at_call 49; refine (HA.out).mono ?_; rintro e w' ⟨rfl, rfl⟩) | (go_at_call 46; refine (HN.out).mono ?_; rintro e w1 ⟨v1, rfl, ⟨va, vk2, rfl, hVa, hVk⟩, hB1⟩; obtain ⟨A1, z1, rfl⟩ := hVa.shape; obtain ⟨A2, z2, rfl⟩ := hVk.shape; unfold ndCells; have cp : w1.cell? ⟨p, 0, none⟩ = some v := blk_cell (hpk _ hB1).1 0; have pl := (Array.getElem?_eq_some_iff.1 (hpk _ hB1).1).1; have hbx1 := h.boxed hB1; have hwl : w.heap.size < w1.heap.size := Nat.lt_of_lt_of_le (lt_al w _) hB1.size) | (go_at_call 114; refine (HC.out _ (hB1.bel (by repeat (first | exact Below.refl _ _ | exact bel_alloc _ _ | (refine bel_set ?_ (by simp only; omega)))))).mono ?_; rintro e w2 ⟨rfl, rfl⟩) | (go_at_call 106; refine (HSP.out _ (hB1.bel (by repeat (first | exact Below.refl _ _ | exact bel_alloc _ _ | (refine bel_set ?_ (by simp only; omega))))).glob).mono ?_; rintro e w2 ⟨rfl, rfl⟩) | (go_at_call 104; have kE := hB1.enter (bel_alloc w1 (nodeO nn A1 z1 A2 z2)); refine (HI.out _ _ _ kE).mono ?_; rintro e w4 ⟨rfl, k4⟩; have hbn4 := hB1.boxed k4) | (go_at_call 131; refine (HU.out _ _ _ (k4.al _) _ (strRow_at [_] (by simp) (by simp))).mono ?_; rintro e w5 ⟨rfl, k5⟩; have hB5 := hB1.sub (bel_alloc w1 (nodeO nn A1 z1 A2 z2)) k5; have hbx5 := h.boxed hB5) | (go_at_call 71; first | (refine (HBK.out _ (by rw [← HFU.out]; exact hB5)).mono ?_; rintro e w6 ⟨rfl, h6⟩) | (refine (HBK.out _ (by rw [← HFU.out]; exact hB1.bel (by repeat (first | exact Below.refl _ _ | exact bel_alloc _ _ | (refine bel_set ?_ (by simp only; omega)))))).mono ?_; rintro e w6 ⟨rfl, h6⟩)))
            go_roundw
            case rel => exact ⟨m, by omega, rfl, HFU.out, hB1.bel (by repeat (first | exact Below.refl _ _ | exact bel_alloc _ _ | (refine bel_set ?_ (by simp only; omega))))⟩
            case measure => simp [intOf]
        · rw [hcn] at hfu hC
          simp only [if_true] at hfu
          have HFU := Lib.hid hfu; have HC := Lib.hid hC; have HS3 := Lib.hid hsp3
          have HSP := Lib.hid hSp
          clear hfu hC hSp hsp3 hcn
          go_wp2_with (first | (go_at_call 17; refine (hB.arena_).mono ?_; rintro e w' ⟨rfl, rfl⟩) | (go_at_call 49; refine (HA.out).mono ?_; rintro e w' ⟨rfl, rfl⟩) | (go_at_call 46; refine (HN.out).mono ?_; rintro e w1 ⟨v1, rfl, ⟨va, vk2, rfl, hVa, hVk⟩, hB1⟩; obtain ⟨A1, z1, rfl⟩ := hVa.shape; obtain ⟨A2, z2, rfl⟩ := hVk.shape; unfold ndCells; have cp : w1.cell? ⟨p, 0, none⟩ = some v := blk_cell (hpk _ hB1).1 0; have pl := (Array.getElem?_eq_some_iff.1 (hpk _ hB1).1).1; have hbx1 := h.boxed hB1; have hwl : w.heap.size < w1.heap.size := Nat.lt_of_lt_of_le (lt_al w _) hB1.size) | (go_at_call 114; refine (HC.out _ (hB1.bel (by repeat (first | exact Below.refl _ _ | exact bel_alloc _ _ | (refine bel_set ?_ (by simp only; omega)))))).mono ?_; rintro e w2 ⟨rfl, rfl⟩) | (go_at_call 106; refine (HSP.out _ (hB1.bel (by repeat (first | exact Below.refl _ _ | exact bel_alloc _ _ | (refine bel_set ?_ (by simp only; omega))))).glob).mono ?_; rintro e w2 ⟨rfl, rfl⟩) | (go_at_call 104; have kE := hB1.enter (bel_alloc w1 (nodeO nn A1 z1 A2 z2)); refine (HI.out _ _ _ kE).mono ?_; rintro e w4 ⟨rfl, k4⟩; have hbn4 := hB1.boxed k4) | (go_at_call 131; refine (HU.out _ _ _ (k4.al _) _ (strRow_at [_] (by simp) (by simp))).mono ?_; rintro e w5 ⟨rfl, k5⟩; have hB5 := hB1.sub (bel_alloc w1 (nodeO nn A1 z1 A2 z2)) k5; have hbx5 := h.boxed hB5) | (go_at_call 71; first | (refine (HBK.out _ (by rw [← HFU.out]; exact hB5)).mono ?_; rintro e w6 ⟨rfl, h6⟩) | (refine (HBK.out _ (by rw [← HFU.out]; exact hB1.bel (by repeat (first | exact Below.refl _ _ | exact bel_alloc _ _ | (refine bel_set ?_ (by simp only; omega)))))).mono ?_; rintro e w6 ⟨rfl, h6⟩)))
          rw [Exit.noGoto_normal]
          go_end0
          exact ⟨rfl, h.sub (bel_alloc w (tokO t)) (by rw [HQ.out]; exact h6)⟩
end Go.Proofs.YtgaebaokcjhcdaaGreatDoor
