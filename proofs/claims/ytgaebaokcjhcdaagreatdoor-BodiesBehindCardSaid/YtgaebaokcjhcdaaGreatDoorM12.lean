/- adopt: furthest, pop, fresh; builder.Again. -/
import Derived.Test.YtgaebaokcjhcdaaGreatDoorM11
import Derived.Deep.LoopGhost
import Derived.StillTailTactics
import Derived.Deep.QuietTactic
import Derived.BigQuiet

set_option linter.unusedVariables false
set_option linter.unusedSimpArgs false
namespace Go.Proofs.YtgaebaokcjhcdaaGreatDoor
open Go.RowKit Lz
variable {w0 w w' : World} {F : Nat → Prop} {b a st l n : Nat} {s s' : St}

set_option maxRecDepth 100000 in
set_option maxHeartbeats 2000000 in
theorem again_c (w : World) (n : Nd) (A1 : Option Addr) (m1 p1 : Nat) (A2 : Option Addr) (m2 p2 : Nat) :
    Calls Tryz.prog 54 #[.agg #[.int .i64 n.kind, .string n.name, .string n.text, .int .i64 n.space, .slice A1 m1 p1, .bool n.dup, .int .i64 n.parent, .int .i64 n.content, .slice A2 m2 p2, .int .i64 n.frm, .int .i64 n.to]] w
      fun e w' => e = .returned (.agg #[.int .i64 2, .string n.name, .string n_empty, .slice A1 m1 p1, .bool n.dup, .bool false, .bool false, .int .i64 n.frm, .int .i64 n.to]) ∧ Bel w w' := by
  go_enter Tryz.func54, Tryz.ntmps54
  go_wp2
  refine bodyPost_ret (v := .agg #[.int .i64 2, .string n.name, .string n_empty, .slice A1 m1 p1, .bool n.dup, .bool false, .bool false, .int .i64 n.frm, .int .i64 n.to]) (by simp [results, Tryz.results54, go_sem]; rfl) rfl ⟨rfl, ?_⟩
  repeat (refine bel_set ?_ (by simp only; omega))
  exact bel_al (bel_alloc _ _)

theorem BS.small (h : BS w0 F w b a st l s) : s.stk.length ≤ 512 := by
  obtain ⟨hm, ⟨Fa, Fs, Fl, Fb, vm, vk, hp, hF⟩, hlt⟩ := h
  obtain ⟨v, hv⟩ := hp.stack
  exact hv.small
theorem cut_pop (s : St) (j : Nat) (hj : j ≤ s.stk.length) : (s.cut j).pop = s.cut (j - 1) := by
  unfold St.pop St.cut
  simp only [List.length_take, List.take_take]
  congr 2; omega
set_option maxRecDepth 100000 in
set_option maxHeartbeats 1000000 in
theorem adPop_c (h : BS w0 F w b a st l s) (k : Int) (h0 : 0 ≤ k) :
    Calls Tryz.prog 105 #[.pointer (some ⟨b, 0, none⟩), .int .i64 k] w fun e w' => e = .returned (.tuple #[]) ∧ BS w0 F w' b a st l (s.popTo k) := by
  have hcl : s.cut s.stk.length = s := by unfold St.cut; rw [List.take_length]
  have hsm := h.small
  have HC := Lib.hid hcl
  go_enter Tryz.func105, Tryz.ntmps105
  go_wp2
  go_loopg [4] s.stk.length (fun m _ wr => ∃ j : Nat, j ≤ s.stk.length ∧ (k ≤ j ∨ j = s.stk.length) ∧ (j : Int) ≤ k + m ∧ BS w0 F wr b a st l (s.cut j))
  case atStart => exact ⟨s.stk.length, Nat.le_refl _, .inr rfl, by omega, by rw [HC.out]; exact h⟩
  case round =>
    obtain ⟨j, hj, hkj, hjm, hB⟩ := hrel
    have hlen : (s.cut j).stk.length = j := by unfold St.cut; simp; omega
    have HL := hB.len_
    rw [hlen] at HL
    have HL := Lib.hid HL; have HLN := Lib.hid hlen
    clear hcl hlen h
    by_cases hjk : k < (j : Int)
    · go_wp2_with (first | (go_at_call 19; refine (hB.stack_).mono ?_; rintro e w' ⟨rfl, rfl⟩) | (go_at_call 20; refine (HL.out).mono ?_; rintro e w' ⟨rfl, rfl⟩) | (go_at_call 41; refine (hB.pop_).mono ?_; rintro e w1 ⟨rfl, h1⟩))
      go_roundg (gk - 1)
      case rel => exact ⟨j - 1, by omega, by omega, by omega, by rw [← cut_pop s j (by omega)]; exact h1⟩
      case measure => omega
    · go_wp2_with (first | (go_at_call 19; refine (hB.stack_).mono ?_; rintro e w' ⟨rfl, rfl⟩) | (go_at_call 20; refine (HL.out).mono ?_; rintro e w' ⟨rfl, rfl⟩))
      go_end0
      refine ⟨rfl, ?_⟩
      have e : s.popTo k = s.cut j := by
        unfold St.popTo
        split
        · congr 1; omega
        · have : j = s.stk.length := by omega
          rw [this, HC.out]
      rw [e]; exact hB
set_option maxRecDepth 100000 in
set_option maxHeartbeats 1000000 in
theorem furthest_c (h : BS w0 F w b a st l s) (hf : Fine n s) (k : Int) (h0 : 0 ≤ k) (h1 : k < s.stk.length) :
    Calls Tryz.prog 210 #[.pointer (some ⟨b, 0, none⟩), .int .i64 k] w fun e w' => e = .returned (.int .i64 (s.furthest k)) ∧ BS w0 F w' b a st l s := by
  have hsm := h.small
  have hk1 : IntKind.i64.wrap (k + 1) = k + 1 := IntWalk.i64_in _ (by omega)
  have hstart : s.furthestFrom (s.stk.length - (k + 1).toNat) (((k + 1).toNat : Nat) : Int) = s.furthest k := by
    unfold St.furthest
    congr 1 <;> omega
  have HS := Lib.hid hstart
  clear hstart
  go_enter Tryz.func210, Tryz.ntmps210
  go_wp2_with (go_at_call 19; refine (h.stack_).mono ?_; rintro e w' ⟨rfl, rfl⟩)
  go_loopw [6] (fun x wr => ∃ j : Nat, j ≤ s.stk.length ∧ x = .int .i64 j ∧ s.furthestFrom (s.stk.length - j) j = s.furthest k ∧ BS w0 F wr b a st l s) (fun x _ => s.stk.length - (intOf x).toNat)
  case atStart => exact ⟨(k + 1).toNat, by omega, by have e0 : k + 1 = (((k + 1).toNat : Nat) : Int) := by omega
                                                     rw [← e0], HS.out, h⟩
  case round =>
    obtain ⟨j, hj, rfl, hfu, hB⟩ := hrel
    clear hk1 HS h
    have HL := Lib.hid (hB.len_)
    by_cases hlt : j < s.stk.length
    · have hst : s.furthestFrom (s.stk.length - j) j = if special (s.node (s.at_ j)).space (s.node (s.at_ j)).name then s.at_ j else s.furthestFrom (s.stk.length - (j + 1)) ((j : Int) + 1) := by
        obtain ⟨q, hq⟩ : ∃ q, s.stk.length - j = q + 1 := ⟨s.stk.length - j - 1, by omega⟩
        have hq2 : s.stk.length - (j + 1) = q := by omega
        rw [hq, hq2]; rfl
      rw [hst] at hfu
      have HA := Lib.hid (fun W (hW : Bel wr W) => (hB.bel hW).at_ (j : Int)); have HN := Lib.hid (adNode_c hB (s.at_ j))
      have hSp := fun W (hg : Glob W) => special_c W (s.node (s.at_ j)).space (s.node (s.at_ j)).name hg (hf.nms _)
      have HG := Lib.hid hB.glob
      have wj : IntKind.i64.wrap ((j : Int) + 1) = (j : Int) + 1 := IntWalk.i64_in _ (by omega)
      clear hst
      generalize hi : s.at_ j = i at *
      have HI := Lib.hid hi
      generalize s.node i = nn at *
      clear hi
      cases hb : special nn.space nn.name
      · rw [hb] at hSp hfu
        have HSP := Lib.hid hSp; have HFU := Lib.hid hfu
        clear hSp hfu hb
        go_wp2_with (first | (go_at_call 20; refine (HL.out).mono ?_; rintro e w' ⟨rfl, rfl⟩) | (go_at_call 49; refine (HA.out _ (by first | exact Below.refl _ _ | exact bel_tr hb1 (by repeat (first | exact Below.refl _ _ | exact bel_alloc _ _ | (refine bel_set ?_ (by simp only; omega)))))).mono ?_; rintro e w' ⟨rfl, rfl⟩) | (go_at_call 103; refine (HN.out).mono ?_; rintro e w1 ⟨v1, rfl, ⟨va, vk2, rfl, hVa, hVk⟩, hb1⟩; obtain ⟨A1, z1, rfl⟩ := hVa.shape; obtain ⟨A2, z2, rfl⟩ := hVk.shape; unfold ndCells) | (go_at_call 106; refine (HSP.out _ (HG.out.bel (bel_tr hb1 (by repeat (first | exact Below.refl _ _ | exact bel_alloc _ _ | (refine bel_set ?_ (by simp only; omega))))))).mono ?_; rintro e w2 ⟨rfl, rfl⟩))
        go_roundw
        case rel => exact ⟨j + 1, by omega, by go_num, HFU.out, hB.bel (bel_tr hb1 (by repeat (first | exact Below.refl _ _ | exact bel_alloc _ _ | (refine bel_set ?_ (by simp only; omega)))))⟩
        case measure => simp [intOf]; omega
      · rw [hb] at hSp hfu
        have HSP := Lib.hid hSp; have HFU := Lib.hid hfu
        clear hSp hfu hb
        go_wp2_with (first | (go_at_call 20; refine (HL.out).mono ?_; rintro e w' ⟨rfl, rfl⟩) | (go_at_call 49; refine (HA.out _ (by first | exact Below.refl _ _ | exact bel_tr hb1 (by repeat (first | exact Below.refl _ _ | exact bel_alloc _ _ | (refine bel_set ?_ (by simp only; omega)))))).mono ?_; rintro e w' ⟨rfl, rfl⟩) | (go_at_call 103; refine (HN.out).mono ?_; rintro e w1 ⟨v1, rfl, ⟨va, vk2, rfl, hVa, hVk⟩, hb1⟩; obtain ⟨A1, z1, rfl⟩ := hVa.shape; obtain ⟨A2, z2, rfl⟩ := hVk.shape; unfold ndCells) | (go_at_call 106; refine (HSP.out _ (HG.out.bel (bel_tr hb1 (by repeat (first | exact Below.refl _ _ | exact bel_alloc _ _ | (refine bel_set ?_ (by simp only; omega))))))).mono ?_; rintro e w2 ⟨rfl, rfl⟩))
        go_ret
        exact ⟨ret_int HFU.out, hB.bel (bel_tr hb1 (by repeat (first | exact Below.refl _ _ | exact bel_alloc _ _ | (refine bel_set ?_ (by simp only; omega)))))⟩
    · go_wp2_with (first | (go_at_call 20; refine (HL.out).mono ?_; rintro e w' ⟨rfl, rfl⟩))
      go_ret
      have e : s.stk.length - j = 0 := by omega
      rw [e] at hfu
      exact ⟨ret_int hfu, hB⟩
end Go.Proofs.YtgaebaokcjhcdaaGreatDoor

/- adopt: fresh, Other. -/
set_option linter.unusedVariables false
set_option linter.unusedSimpArgs false
namespace Go.Proofs.YtgaebaokcjhcdaaGreatDoor
open Go.RowKit Lz
variable {w0 w w' : World} {F : Nat → Prop} {b a st l n : Nat} {s s' : St}

theorem BS.asmall (h : BS w0 F w b a st l s) (i : Int) : (s.node i).attrs.length ≤ 1048576 := by
  obtain ⟨hm, ⟨Fa, Fs, Fl, Fb, vm, vk, hp, hF⟩, hlt⟩ := h
  obtain ⟨g, cap, cur, va, vk, hv⟩ := hp.arena
  unfold St.node nodeAt
  split
  · by_cases hi : i.toNat < s.nodes.length
    · exact hv.asmall _ hi
    · rw [List.getD_eq_getElem?_getD, List.getElem?_eq_none (by omega)]; exact Nat.zero_le _
  · exact Nat.zero_le _
abbrev tokA (nn : Nd) (A1 : Option Addr) (z1 : Nat) : Obj := .cells #[.int .i64 2, .string nn.name, .string n_empty, .slice A1 nn.attrs.length z1, .bool nn.dup, .bool false, .bool false, .int .i64 nn.frm, .int .i64 nn.to] 24 (0, 0)
set_option maxRecDepth 100000 in
set_option maxHeartbeats 2000000 in
theorem fresh_c (h : BS w0 F w b a st l s) (hf : Fine n s) (hn : n + 2 ≤ 1048576) (i : Int) :
    Calls Tryz.prog 227 #[.pointer (some ⟨b, 0, none⟩), .int .i64 i] w fun e w' => e = .returned (.int .i64 s.nodes.length) ∧ BS w0 F w' b a st l (s.fresh i) := by
  have HN := Lib.hid (adNode_c h i)
  have HG := Lib.hid (fun (A1 : Option Addr) (m1 p1 : Nat) (A2 : Option Addr) (m2 p2 : Nat) W => again_c W (s.node i) A1 m1 p1 A2 m2 p2)
  have htm : isTemplate (s.freshNd i) = false := by
    have : ((s.freshNd i).name == n_template) = false := beq_eq_false_iff_ne.2 (hf.tmpl i)
    unfold isTemplate
    rw [this, Bool.and_false]
  have HA : Hid (∀ W va, BS w0 F W b a st l s → AttrRow W (fun k => w.heap.size ≤ k) va (s.node i).attrs → Calls Tryz.prog 59 #[.pointer (some ⟨a, 0, none⟩), .agg (ndCells (s.freshNd i) va (.slice none 0 0)).toArray] W fun e w' => e = .returned (.int .i64 s.nodes.length) ∧ BS w0 F w' b a st l (s.fresh i)) :=
    fun W va hW hva => hW.add_ _ (s.freshNd i) va (.slice none 0 0) hva (h.asmall i) ⟨none, 0, 0, rfl⟩ rfl (hf.room2 hn) htm
  have hnd : s.freshNd i = (⟨3, (s.node i).name, n_empty, 0, (s.node i).attrs, (s.node i).dup, 0, 0, [], (s.node i).frm, (s.node i).11⟩ : Nd) := rfl
  rw [hnd] at HA
  clear htm hnd
  generalize s.node i = nn at *
  go_enter Tryz.func227, Tryz.ntmps227
  go_wp2_with (first | (go_at_call 103; refine (HN.out).mono ?_; rintro e w1 ⟨v1, rfl, ⟨va, vk2, rfl, hVa, hVk⟩, hb1⟩; obtain ⟨A1, z1, rfl⟩ := hVa.shape; obtain ⟨A2, z2, rfl⟩ := hVk.shape; unfold ndCells) | (go_at_call 54; refine (HG.out _ _ _ _ _ _ _).mono ?_; rintro e w2 ⟨rfl, hb2⟩; have hB2 := h.bel (bel_tr hb1 hb2); have hV2 := hVa.bel hb2))
  clear HN HG
  have HB := Lib.hid ((hB2.al (tokA nn A1 z1)).dr); have HV := Lib.hid (hV2.bel (bel_dr (bel_alloc w2 (tokA nn A1 z1))))
  have C0 : ((w2.alloc (tokA nn A1 z1)).drew).heap[w2.heap.size]? = some (tokA nn A1 z1) := heap_alloc_new w2 _
  have q1 := blk_cell C0 1; have q3 := blk_cell C0 3; have q4 := blk_cell C0 4; have q7 := blk_cell C0 7; have q8 := blk_cell C0 8
  simp only [List.getElem?_toArray, List.getElem?_cons_succ, List.getElem?_cons_zero] at q1 q3 q4 q7 q8
  have hA := HB.out.arena_
  refine wp_region_still_tail 13 (by kernel_rfl) (by kernel_rfl) ?_
  show wpStill _ _ ((w2.alloc (tokA nn A1 z1)).drew) (fun a' => wpList _ _ _ _ a' ((w2.alloc (tokA nn A1 z1)).drew)) _ _
  simp only [List.take_succ_cons, List.take_zero, List.drop_succ_cons, List.drop_zero]
  clear C0 hB2 hV2
  generalize (w2.alloc (tokA nn A1 z1)).drew = w3 at *
  still_step
  still_call (hA.mono fun e w' h => ⟨h.1, h.2.symm⟩)
  repeat still_step
  refine wpStill_nil ?_
  go_wp2_with (go_at_call 59; refine (HA.out _ _ HB.out HV.out).mono ?_; rintro e w4 ⟨rfl, h3⟩)
  go_ret
  exact ⟨rfl, h3⟩
end Go.Proofs.YtgaebaokcjhcdaaGreatDoor

/- adopt: Other. -/
set_option linter.unusedVariables false
set_option linter.unusedSimpArgs false
namespace Go.Proofs.YtgaebaokcjhcdaaGreatDoor
open Go.RowKit Lz
variable {w0 w w' : World} {F : Nat → Prop} {b a st l n : Nat} {s s' : St}

set_option maxRecDepth 100000 in
set_option maxHeartbeats 2000000 in
theorem other_c (h : BS w0 F w b a st l s) (hf : Fine n s) (name : Str) :
    Calls Tryz.prog 33 #[.pointer (some ⟨b, 0, none⟩), .string name] w fun e w' => e = .returned (.tuple #[]) ∧ BS w0 F w' b a st l (s.other name) := by
  have hsm := h.small
  have wk : IntKind.i64.wrap ((s.stk.length : Int) - 1) = (s.stk.length : Int) - 1 := IntWalk.i64_in _ (by omega)
  go_enter Tryz.func33, Tryz.ntmps33
  go_wp2_with (first | (go_at_call 17; refine (h.arena_).mono ?_; rintro e w' ⟨rfl, rfl⟩) | (go_at_call 19; refine (h.stack_).mono ?_; rintro e w' ⟨rfl, rfl⟩) | (go_at_call 20; refine (h.len_).mono ?_; rintro e w' ⟨rfl, rfl⟩))
  go_loopw [5] (fun x wr => ∃ m : Nat, m ≤ s.stk.length ∧ x = .int .i64 ((m : Int) - 1) ∧ s.otherFrom name m = s.other name ∧ BS w0 F wr b a st l s) (fun x _ => (intOf x + 1).toNat)
  case atStart => exact ⟨s.stk.length, Nat.le_refl _, rfl, rfl, h⟩
  case round =>
    obtain ⟨m, hm, rfl, hfu, hB⟩ := hrel
    clear wk h
    cases m with
    | zero =>
      have HT := Lib.hid hfu
      clear hfu
      go_wp2
      go_end0
      exact ⟨rfl, by rw [← HT.out]; exact hB⟩
    | succ m =>
      have e1 : ((m + 1 : Nat) : Int) - 1 = (m : Int) := by omega
      rw [e1]
      have hst : s.otherFrom name (m + 1) = if (s.node (s.at_ (m : Int))).space == 0 && (s.node (s.at_ (m : Int))).name == name then (s.implied name).popTo (m : Int) else if special (s.node (s.at_ (m : Int))).space (s.node (s.at_ (m : Int))).name then s else s.otherFrom name m := rfl
      rw [hst] at hfu
      have HA := Lib.hid (fun W (hW : Bel wr W) => (hB.bel hW).at_ (m : Int)); have HN := Lib.hid (adNode_c hB (s.at_ (m : Int)))
      have hSp := fun W (hg : Glob W) => special_c W (s.node (s.at_ (m : Int))).space (s.node (s.at_ (m : Int))).name hg (hf.nms _)
      have HG := Lib.hid hB.glob
      have HI := Lib.hid (fun W (hW : Bel wr W) => (hB.bel hW).implied_ hf.names name)
      have HP := Lib.hid (fun W (k : BS w0 F W b a st l (s.implied name)) => adPop_c k (m : Int) (by omega))
      have wj : IntKind.i64.wrap ((m : Int) - 1) = (m : Int) - 1 := IntWalk.i64_in _ (by omega)
      clear hst e1
      generalize hi : s.at_ (m : Int) = i at *
      clear hi
      generalize s.node i = nn at *
      have hbn : (nn.name.toList == name.toList) = (nn.name == name) := beqS _ _
      rw [← hbn] at hfu
      clear hbn
      cases hsp : nn.space == 0
      · rw [hsp, Bool.false_and] at hfu
        have hsp2 : (nn.space == 0) = false := hsp
        cases hb : special nn.space nn.name
        · rw [hb] at hSp hfu
          have HSP := Lib.hid hSp; have HFU := Lib.hid hfu
          clear hSp hfu hb hsp2
          go_wp2_with (first | (go_at_call 17; refine (hB.arena_).mono ?_; rintro e w' ⟨rfl, rfl⟩) | (go_at_call 49; refine (HA.out _ (by first | exact Below.refl _ _ | exact bel_tr hb1 (by repeat (first | exact Below.refl _ _ | exact bel_alloc _ _ | (refine bel_set ?_ (by simp only; omega)))))).mono ?_; rintro e w' ⟨rfl, rfl⟩) | (go_at_call 103; refine (HN.out).mono ?_; rintro e w1 ⟨v1, rfl, ⟨va, vk2, rfl, hVa, hVk⟩, hb1⟩; obtain ⟨A1, z1, rfl⟩ := hVa.shape; obtain ⟨A2, z2, rfl⟩ := hVk.shape; unfold ndCells) | (go_at_call 106; refine (HSP.out _ (HG.out.bel (bel_tr hb1 (by repeat (first | exact Below.refl _ _ | exact bel_alloc _ _ | (refine bel_set ?_ (by simp only; omega))))))).mono ?_; rintro e w2 ⟨rfl, rfl⟩) | (go_at_call 104; refine (HI.out _ (bel_tr hb1 (by repeat (first | exact Below.refl _ _ | exact bel_alloc _ _ | (refine bel_set ?_ (by simp only; omega)))))).mono ?_; rintro e w4 ⟨rfl, h4⟩) | (go_at_call 105; refine (HP.out _ h4).mono ?_; rintro e w5 ⟨rfl, h5⟩))
          go_roundw
          case rel => exact ⟨m, by omega, rfl, HFU.out, hB.bel (bel_tr hb1 (by repeat (first | exact Below.refl _ _ | exact bel_alloc _ _ | (refine bel_set ?_ (by simp only; omega)))))⟩
          case measure => simp [intOf]
        · rw [hb] at hSp hfu
          have HSP := Lib.hid hSp; have HFU := Lib.hid hfu
          clear hSp hfu hb hsp2
          go_wp2_with (first | (go_at_call 17; refine (hB.arena_).mono ?_; rintro e w' ⟨rfl, rfl⟩) | (go_at_call 49; refine (HA.out _ (by first | exact Below.refl _ _ | exact bel_tr hb1 (by repeat (first | exact Below.refl _ _ | exact bel_alloc _ _ | (refine bel_set ?_ (by simp only; omega)))))).mono ?_; rintro e w' ⟨rfl, rfl⟩) | (go_at_call 103; refine (HN.out).mono ?_; rintro e w1 ⟨v1, rfl, ⟨va, vk2, rfl, hVa, hVk⟩, hb1⟩; obtain ⟨A1, z1, rfl⟩ := hVa.shape; obtain ⟨A2, z2, rfl⟩ := hVk.shape; unfold ndCells) | (go_at_call 106; refine (HSP.out _ (HG.out.bel (bel_tr hb1 (by repeat (first | exact Below.refl _ _ | exact bel_alloc _ _ | (refine bel_set ?_ (by simp only; omega))))))).mono ?_; rintro e w2 ⟨rfl, rfl⟩) | (go_at_call 104; refine (HI.out _ (bel_tr hb1 (by repeat (first | exact Below.refl _ _ | exact bel_alloc _ _ | (refine bel_set ?_ (by simp only; omega)))))).mono ?_; rintro e w4 ⟨rfl, h4⟩) | (go_at_call 105; refine (HP.out _ h4).mono ?_; rintro e w5 ⟨rfl, h5⟩))
          refine bodyPost_ret (results_none rfl _ _ _) rfl ⟨rfl, ?_⟩
          rw [← HFU.out]; exact hB.bel (bel_tr hb1 (by repeat (first | exact Below.refl _ _ | exact bel_alloc _ _ | (refine bel_set ?_ (by simp only; omega)))))
      · have hsp3 : nn.space = 0 := by simpa using hsp
        rw [hsp, Bool.true_and] at hfu
        cases hnm : nn.name.toList == name.toList
        · rw [hnm] at hfu
          cases hb : special nn.space nn.name
          · rw [hb] at hSp hfu
            have HSP := Lib.hid hSp; have HFU := Lib.hid hfu
            have HS3 := Lib.hid hsp3
            clear hSp hfu hb hsp3
            go_wp2_with (first | (go_at_call 17; refine (hB.arena_).mono ?_; rintro e w' ⟨rfl, rfl⟩) | (go_at_call 49; refine (HA.out _ (by first | exact Below.refl _ _ | exact bel_tr hb1 (by repeat (first | exact Below.refl _ _ | exact bel_alloc _ _ | (refine bel_set ?_ (by simp only; omega)))))).mono ?_; rintro e w' ⟨rfl, rfl⟩) | (go_at_call 103; refine (HN.out).mono ?_; rintro e w1 ⟨v1, rfl, ⟨va, vk2, rfl, hVa, hVk⟩, hb1⟩; obtain ⟨A1, z1, rfl⟩ := hVa.shape; obtain ⟨A2, z2, rfl⟩ := hVk.shape; unfold ndCells) | (go_at_call 106; refine (HSP.out _ (HG.out.bel (bel_tr hb1 (by repeat (first | exact Below.refl _ _ | exact bel_alloc _ _ | (refine bel_set ?_ (by simp only; omega))))))).mono ?_; rintro e w2 ⟨rfl, rfl⟩) | (go_at_call 104; refine (HI.out _ (bel_tr hb1 (by repeat (first | exact Below.refl _ _ | exact bel_alloc _ _ | (refine bel_set ?_ (by simp only; omega)))))).mono ?_; rintro e w4 ⟨rfl, h4⟩) | (go_at_call 105; refine (HP.out _ h4).mono ?_; rintro e w5 ⟨rfl, h5⟩))
            go_roundw
            case rel => exact ⟨m, by omega, rfl, HFU.out, hB.bel (bel_tr hb1 (by repeat (first | exact Below.refl _ _ | exact bel_alloc _ _ | (refine bel_set ?_ (by simp only; omega)))))⟩
            case measure => simp [intOf]
          · rw [hb] at hSp hfu
            have HSP := Lib.hid hSp; have HFU := Lib.hid hfu
            have HS3 := Lib.hid hsp3
            clear hSp hfu hb hsp3
            go_wp2_with (first | (go_at_call 17; refine (hB.arena_).mono ?_; rintro e w' ⟨rfl, rfl⟩) | (go_at_call 49; refine (HA.out _ (by first | exact Below.refl _ _ | exact bel_tr hb1 (by repeat (first | exact Below.refl _ _ | exact bel_alloc _ _ | (refine bel_set ?_ (by simp only; omega)))))).mono ?_; rintro e w' ⟨rfl, rfl⟩) | (go_at_call 103; refine (HN.out).mono ?_; rintro e w1 ⟨v1, rfl, ⟨va, vk2, rfl, hVa, hVk⟩, hb1⟩; obtain ⟨A1, z1, rfl⟩ := hVa.shape; obtain ⟨A2, z2, rfl⟩ := hVk.shape; unfold ndCells) | (go_at_call 106; refine (HSP.out _ (HG.out.bel (bel_tr hb1 (by repeat (first | exact Below.refl _ _ | exact bel_alloc _ _ | (refine bel_set ?_ (by simp only; omega))))))).mono ?_; rintro e w2 ⟨rfl, rfl⟩) | (go_at_call 104; refine (HI.out _ (bel_tr hb1 (by repeat (first | exact Below.refl _ _ | exact bel_alloc _ _ | (refine bel_set ?_ (by simp only; omega)))))).mono ?_; rintro e w4 ⟨rfl, h4⟩) | (go_at_call 105; refine (HP.out _ h4).mono ?_; rintro e w5 ⟨rfl, h5⟩))
            refine bodyPost_ret (results_none rfl _ _ _) rfl ⟨rfl, ?_⟩
            rw [← HFU.out]; exact hB.bel (bel_tr hb1 (by repeat (first | exact Below.refl _ _ | exact bel_alloc _ _ | (refine bel_set ?_ (by simp only; omega)))))
        · rw [hnm] at hfu
          have HFU := Lib.hid hfu
          have HS3 := Lib.hid hsp3
          clear hfu hsp3 hSp
          go_wp2_with (first | (go_at_call 17; refine (hB.arena_).mono ?_; rintro e w' ⟨rfl, rfl⟩) | (go_at_call 49; refine (HA.out _ (by first | exact Below.refl _ _ | exact bel_tr hb1 (by repeat (first | exact Below.refl _ _ | exact bel_alloc _ _ | (refine bel_set ?_ (by simp only; omega)))))).mono ?_; rintro e w' ⟨rfl, rfl⟩) | (go_at_call 103; refine (HN.out).mono ?_; rintro e w1 ⟨v1, rfl, ⟨va, vk2, rfl, hVa, hVk⟩, hb1⟩; obtain ⟨A1, z1, rfl⟩ := hVa.shape; obtain ⟨A2, z2, rfl⟩ := hVk.shape; unfold ndCells) | (go_at_call 106; refine (HSP.out _ (HG.out.bel (bel_tr hb1 (by repeat (first | exact Below.refl _ _ | exact bel_alloc _ _ | (refine bel_set ?_ (by simp only; omega))))))).mono ?_; rintro e w2 ⟨rfl, rfl⟩) | (go_at_call 104; refine (HI.out _ (bel_tr hb1 (by repeat (first | exact Below.refl _ _ | exact bel_alloc _ _ | (refine bel_set ?_ (by simp only; omega)))))).mono ?_; rintro e w4 ⟨rfl, h4⟩) | (go_at_call 105; refine (HP.out _ h4).mono ?_; rintro e w5 ⟨rfl, h5⟩))
          refine bodyPost_ret (results_none rfl _ _ _) rfl ⟨rfl, ?_⟩
          rw [← HFU.out]; exact h5
end Go.Proofs.YtgaebaokcjhcdaaGreatDoor

/- adopt: inward and renew, where the block stands right below the element, and nothing stands behind. -/
set_option linter.unusedVariables false
set_option linter.unusedSimpArgs false
namespace Go.Proofs.YtgaebaokcjhcdaaGreatDoor
open Go.RowKit Lz
variable {w0 w w' : World} {F : Nat → Prop} {b a st l n : Nat} {s s' : St}

abbrev runO (b : Nat) (format block above mark : Int) : Obj := .cells #[.pointer (some ⟨b, 0, none⟩), .int .i64 format, .int .i64 block, .int .i64 above, .int .i64 mark] 176 (0, 0)
set_option maxRecDepth 100000 in
set_option maxHeartbeats 2000000 in
theorem inward_now (h : BS w0 F w b a st l s) (r : Nat) (format block above mark : Int) (hr : w.heap[r]? = some (runO b format block above mark)) (hnow : s.at_ (s.index block - 1) = format) :
    Calls Tryz.prog 211 #[.pointer (some ⟨r, 0, none⟩)] w fun e w' => e = .returned (.int .i64 block) ∧ Bel w w' := by
  have hsm := h.small
  have q0 := blk_cell hr 0; have q1 := blk_cell hr 1; have q2 := blk_cell hr 2; have q3 := blk_cell hr 3; have q4 := blk_cell hr 4
  simp only [List.getElem?_toArray, List.getElem?_cons_succ, List.getElem?_cons_zero] at q0 q1 q2 q3 q4
  have hib : -1 ≤ s.index block ∧ s.index block < s.stk.length := by
    have h1 := lastBelow_lt (fun k => (s.el k).node == block) s.stk.length
    have h2 := lastBelow_ge (fun k => (s.el k).node == block) s.stk.length
    unfold St.index; omega
  have wi : IntKind.i64.wrap (s.index block - 1) = s.index block - 1 := IntWalk.i64_in _ (by omega)
  have HS := Lib.hid (fun W (hW : Bel w W) => (h.bel hW).stack_); have HF := Lib.hid (fun W (hW : Bel w W) => (h.bel hW).formats_)
  have HI := Lib.hid (fun W (hW : Bel w W) => (h.bel hW).index_ block)
  have HA := fun W (hW : Bel w W) => (h.bel hW).at_ (s.index block - 1)
  rw [hnow] at HA
  have HA := Lib.hid HA
  clear hr hnow
  generalize s.index block = ib at *
  go_enter Tryz.func211, Tryz.ntmps211
  go_wp2
  go_quiet ((first | (go_at_call 19; exact Calls.quiet_of_same ((HS.out _ (bel_drN (Below.refl _ _))).mono fun e w' h => ⟨h.1, h.2.symm⟩)) | (go_at_call 132; exact Calls.quiet_of_same ((HF.out _ (bel_drN (Below.refl _ _))).mono fun e w' h => ⟨h.1, h.2.symm⟩))))
  go_wp2_with (go_at_call 115; refine (HI.out _ (bel_drN (Below.refl _ _))).mono ?_; rintro e w' ⟨rfl, rfl⟩)
  refine wp_loop_rounds 1 ?_
  rw [rounds_succ]
  go_wp2_with (go_at_call 49; refine (HA.out _ (bel_drN (Below.refl _ _))).mono ?_; rintro e w' ⟨rfl, rfl⟩)
  go_ret
  exact ⟨rfl, bel_drN (Below.refl _ _)⟩
end Go.Proofs.YtgaebaokcjhcdaaGreatDoor

/- adopt: renew, where nothing stands behind. -/
set_option linter.unusedVariables false
set_option linter.unusedSimpArgs false
namespace Go.Proofs.YtgaebaokcjhcdaaGreatDoor
open Go.RowKit Lz
variable {w0 w w' : World} {F : Nat → Prop} {b a st l n : Nat} {s s' : St}

theorem BS.run_kept (h : BS w0 F w b a st l s) {w1 : World} (k : BS w0 F w1 b a st l s') {r : Nat} (hr0 : r < w0.heap.size) (hrF : ¬ F r) : ∀ j, w1.cell? ⟨r, j, none⟩ = w.cell? ⟨r, j, none⟩ :=
  fun j => World.cell?_of_block (a := ⟨r, j, none⟩) ((k.kept hr0 hrF).trans (h.kept hr0 hrF).symm)
def St.rn1 (s : St) (format block : Int) : St := { s.fresh format with nodes := moveN (s.fresh format).nodes block (s.nodes.length : Int) }
def St.rn2 (s : St) (format block : Int) : St := { St.rn1 s format block with nodes := appendN (St.rn1 s format block).nodes block (s.nodes.length : Int) }
def St.rn3 (s : St) (format block : Int) : St := (St.rn2 s format block).fremove format
def St.rn4 (s : St) (format block : Int) : St := ((St.rn3 s format block).finsert (St.rn3 s format block).fmts.length (s.nodes.length : Int)).remove format
structure RenewOK (s : St) (format block mark : Int) : Prop where
  behind : ¬ (St.rn2 s format block).findex format < mark
  end_ : mark = ((St.rn3 s format block).fmts.length : Int)
  top : (St.rn4 s format block).index block + 1 = ((St.rn4 s format block).stk.length : Int)
theorem renew_eq {format block mark : Int} (h : RenewOK s format block mark) : s.renew format block mark = (St.rn4 s format block).push (s.nodes.length : Int) := by
  have h1 := h.behind
  have h2 := h.end_
  have h3 := h.top
  have e1 : s.renew format block mark = ((((St.rn2 s format block).fremove format).finsert (if (St.rn2 s format block).findex format < mark then mark - 1 else mark) (s.nodes.length : Int)).remove format).insert (((((St.rn2 s format block).fremove format).finsert (if (St.rn2 s format block).findex format < mark then mark - 1 else mark) (s.nodes.length : Int)).remove format).index block + 1) (s.nodes.length : Int) := rfl
  rw [e1, if_neg h1]
  have e2 : ((St.rn2 s format block).fremove format).finsert mark (s.nodes.length : Int) = (St.rn3 s format block).finsert (St.rn3 s format block).fmts.length (s.nodes.length : Int) := by rw [h2]; rfl
  rw [e2]
  show (St.rn4 s format block).insert ((St.rn4 s format block).index block + 1) _ = _
  rw [h3]; rfl
theorem rn4_len (s : St) (format block : Int) : (St.rn4 s format block).stk.length ≤ s.stk.length := by
  have e : (St.rn4 s format block).stk.length ≤ ((St.rn3 s format block).finsert (St.rn3 s format block).fmts.length (s.nodes.length : Int)).stk.length := by
    unfold St.rn4 St.remove
    split
    · exact Nat.le_refl _
    · exact List.length_eraseIdx_le _ _
  have e2 : ((St.rn3 s format block).finsert (St.rn3 s format block).fmts.length (s.nodes.length : Int)).stk = (St.rn3 s format block).stk := by
    unfold St.finsert St.lay
    (repeat' split) <;> rfl
  have e3 : (St.rn3 s format block).stk = (St.rn2 s format block).stk := by
    unfold St.rn3 St.fremove St.fdel
    split <;> rfl
  have e4 : (St.rn2 s format block).stk = (s.fresh format).stk := rfl
  have e5 : (s.fresh format).stk = s.stk := by
    unfold St.fresh St.add
    split <;> rfl
  rw [e2, e3, e4, e5] at e
  exact e
set_option maxRecDepth 100000 in
set_option maxHeartbeats 4000000 in
theorem renew_now (h : BS w0 F w b a st l s) (hf : Fine n s) (hn : n + 2 ≤ 1048576) (r : Nat) (hr0 : r < w0.heap.size) (hrF : ¬ F r) (format block above mark : Int) (hr : w.heap[r]? = some (runO b format block above mark)) (hok : RenewOK s format block mark) :
    Calls Tryz.prog 212 #[.pointer (some ⟨r, 0, none⟩)] w fun e w' => e = .returned (.tuple #[]) ∧ BS w0 F w' b a st l (s.renew format block mark) := by
  have HEQ := Lib.hid (renew_eq hok)
  have hbeh := hok.behind; have hend := hok.end_; have htop := hok.top
  have q0 := blk_cell hr 0; have q1 := blk_cell hr 1; have q2 := blk_cell hr 2; have q3 := blk_cell hr 3; have q4 := blk_cell hr 4
  simp only [List.getElem?_toArray, List.getElem?_cons_succ, List.getElem?_cons_zero] at q0 q1 q2 q3 q4
  have HS := Lib.hid (fun W (hW : Bel w W) => (h.bel hW).stack_); have HF := Lib.hid (fun W (hW : Bel w W) => (h.bel hW).formats_); have HA := Lib.hid (fun W (hW : Bel w W) => (h.bel hW).arena_)
  have HFR := Lib.hid (fun W (k : BS w0 F W b a st l s) => fresh_c k hf hn format)
  have HMV := Lib.hid (fun W (k : BS w0 F W b a st l (s.fresh format)) => k.move_ block (s.nodes.length : Int))
  have HAP := Lib.hid (fun W (k : BS w0 F W b a st l (St.rn1 s format block)) => k.append_ block (s.nodes.length : Int))
  have HIX := Lib.hid (fun W (k : BS w0 F W b a st l (St.rn2 s format block)) => k.findex_ format)
  have HRM := Lib.hid (fun W (k : BS w0 F W b a st l (St.rn2 s format block)) => k.fremove_ format)
  have hIN := fun W (k : BS w0 F W b a st l (St.rn3 s format block)) => k.finsert_end_ (s.nodes.length : Int)
  rw [← hend] at hIN
  have HIN := Lib.hid hIN; have HEND := Lib.hid hend
  have HSR := Lib.hid (fun W (k : BS w0 F W b a st l ((St.rn3 s format block).finsert (St.rn3 s format block).fmts.length (s.nodes.length : Int))) => k.remove_ format)
  have HSI := Lib.hid (fun W (k : BS w0 F W b a st l (St.rn4 s format block)) => k.index_ block)
  have hPU := fun W (k : BS w0 F W b a st l (St.rn4 s format block)) => k.insert_end_ (s.nodes.length : Int)
  rw [← htop] at hPU
  have HPU := Lib.hid hPU
  have hib : -1 ≤ (St.rn4 s format block).index block ∧ (St.rn4 s format block).index block ≤ 512 := by
    have h1 := lastBelow_lt (fun k => ((St.rn4 s format block).el k).node == block) (St.rn4 s format block).stk.length
    have h2 := lastBelow_ge (fun k => ((St.rn4 s format block).el k).node == block) (St.rn4 s format block).stk.length
    have h3 : (St.rn4 s format block).stk.length ≤ 512 := by
      have h4 := h.small
      have h5 : (St.rn4 s format block).stk.length ≤ s.stk.length := rn4_len s format block
      omega
    unfold St.index
    omega
  have wib : IntKind.i64.wrap ((St.rn4 s format block).index block + 1) = (St.rn4 s format block).index block + 1 := IntWalk.i64_in _ (by omega)
  have HH := Lib.hid h
  clear hr hend htop hIN hPU hok
  generalize (St.rn4 s format block).index block = ib at *
  generalize (St.rn2 s format block).findex format = fi at *
  go_enter Tryz.func212, Tryz.ntmps212
  go_wp2
  go_quiet ((first | (go_at_call 19; exact Calls.quiet_of_same ((HS.out _ (bel_drN (Below.refl _ _))).mono fun e w' h => ⟨h.1, h.2.symm⟩)) | (go_at_call 132; exact Calls.quiet_of_same ((HF.out _ (bel_drN (Below.refl _ _))).mono fun e w' h => ⟨h.1, h.2.symm⟩)) | (go_at_call 17; exact Calls.quiet_of_same ((HA.out _ (bel_drN (Below.refl _ _))).mono fun e w' h => ⟨h.1, h.2.symm⟩))))
  go_wp2
  have HB1 := Lib.hid (HH.out.bel (bel_dr (bel_drN (Below.refl _ _) (n := nq))))
  have hq : ∀ j, ((w.drewN nq).drew).cell? ⟨r, j, none⟩ = w.cell? ⟨r, j, none⟩ := fun j => rfl
  refine wp_region_still_tail 8 (by kernel_rfl) (by kernel_rfl) ?_
  show wpStill _ _ ((w.drewN nq).drew) (fun a' => wpList _ _ _ _ a' ((w.drewN nq).drew)) _ _
  simp only [List.take_succ_cons, List.take_zero, List.drop_succ_cons, List.drop_zero]
  clear h HS HF HA
  generalize (w.drewN nq).drew = W1 at *
  repeat still_step
  refine wpStill_nil ?_
  go_wp2_with (first | (go_at_call 227; refine (HFR.out _ HB1.out).mono ?_; rintro e w1 ⟨rfl, h1⟩; have hq1 := HH.out.run_kept h1 hr0 hrF) | (go_at_call 229; refine (HMV.out _ h1).mono ?_; rintro e w2 ⟨rfl, h2⟩; have hq2 := HH.out.run_kept h2 hr0 hrF) | (go_at_call 61; refine (HAP.out _ h2).mono ?_; rintro e w3 ⟨rfl, h3⟩; have hq3 := HH.out.run_kept h3 hr0 hrF) | (go_at_call 187; refine (HIX.out _ h3).mono ?_; rintro e w4 ⟨rfl, h4⟩; have hq4 := HH.out.run_kept h4 hr0 hrF) | (go_at_call 147; refine (HRM.out _ h4).mono ?_; rintro e w5 ⟨rfl, h5⟩; have hq5 := HH.out.run_kept h5 hr0 hrF) | (go_at_call 230; refine (HIN.out _ h5).mono ?_; rintro e w6 ⟨rfl, h6⟩; have hq6 := HH.out.run_kept h6 hr0 hrF) | (go_at_call 148; refine (HSR.out _ (by rw [← HEND.out]; exact h6)).mono ?_; rintro e w7 ⟨rfl, h7⟩; have hq7 := HH.out.run_kept h7 hr0 hrF) | (go_at_call 115; refine (HSI.out _ h7).mono ?_; rintro e w8 ⟨rfl, rfl⟩) | (go_at_call 167; refine (HPU.out _ h7).mono ?_; rintro e w9 ⟨rfl, h9⟩))
  go_end0
  exact ⟨rfl, by rw [HEQ.out]; exact h9⟩
end Go.Proofs.YtgaebaokcjhcdaaGreatDoor
