/- builder.Comment into a node; bodies.endBody; bodies.Step behind the body. -/
import Derived.Test.YtgaebaokcjhcdaaGreatDoorS01
import Derived.ChangeMaps5

set_option linter.unusedVariables false
set_option linter.unusedSimpArgs false
namespace Go.Proofs.YtgaebaokcjhcdaaGreatDoor
open Go.RowKit Lz
variable {w0 w w' : World} {F : Nat → Prop} {b a st l n : Nat} {s s' : St}

theorem BS.arenaCell (h : BS w0 F w b a st l s) : w.cell? ⟨b, 0, none⟩ = some (.pointer (some ⟨a, 0, none⟩)) := by
  obtain ⟨_, ⟨Fa, Fs, Fl, Fb, vm, vk, hp, hF⟩, _⟩ := h
  exact hp.c 0
theorem attrNil (W : World) : AttrRow W (fun _ => False) (.slice none 0 0) [] := .inl ⟨rfl, rfl⟩
abbrev cmtNd (x : Str) : Nd := ⟨5, n_empty, x, 0, [], false, 0, 0, [], -1, -1⟩
theorem comment_eq (s : St) (t : Tok) (into : Int) (h0 : 0 ≤ into) : s.comment t into = { s with nodes := appendN (addN s.nodes (cmtNd t.text)) into (s.nodes.length : Int) } := by
  unfold St.comment
  have : ¬ into < 0 := by omega
  simp only [this, if_false]
  unfold St.add
  rfl
set_option maxRecDepth 100000 in
set_option maxHeartbeats 2000000 in
theorem comment_c (h : BS w0 F w b a st l s) (hn : s.nodes.length + 2 ≤ 1048576) (t : Tok) (into : Int) (hi : 0 ≤ into) :
    Calls Tryz.prog 26 #[.pointer (some ⟨b, 0, none⟩), tokV t, .int .i64 into] w fun e w' => e = .returned (.tuple #[]) ∧ BS w0 F w' b a st l (s.comment t into) := by
  rw [comment_eq s t into hi]
  have h0 := h.enter (bel_alloc w (tokO t))
  have hnl : ¬ into < 0 := by omega
  have c0 := h0.arenaCell
  have HA := Lib.hid (fun W (hW : BS (w.alloc (tokO t)) (grow F w0 w) W b a st l s) => hW.add_ (fun _ => False) (cmtNd t.text) (.slice none 0 0) (.slice none 0 0) (attrNil W) (by simp) ⟨none, 0, 0, rfl⟩ rfl hn rfl)
  go_enter Tryz.func26, Tryz.ntmps26
  go_wp2_with (go_at_call 44; refine (h0.none_).mono ?_; rintro e w' ⟨rfl, rfl⟩)
  go_region_with (go_at_call 59; refine (HA.out _ h0.dr).mono ?_; rintro e w2 ⟨rfl, h2⟩; have d0 := h2.arenaCell; have HP := Lib.hid (h2.append_ into (s.nodes.length : Int)))
  all_goals (
    go_wp2_with (go_at_call 61; refine HP.out.mono ?_; rintro e w3 ⟨rfl, h3⟩)
    go_end0
    exact ⟨rfl, h.sub (bel_alloc w (tokO t)) h3⟩)
set_option maxRecDepth 100000 in
set_option maxHeartbeats 2000000 in
theorem endBody_c (h : BS w0 F w b a st l s) (hN : ∀ k, (s.el k).name.size < 1000000) (hh : s.has 0 [n_body] = true) (t : Tok) :
    Calls Tryz.prog 94 #[.pointer (some ⟨b, 0, none⟩), tokV t] w fun e w' => e = .returned (.tuple #[]) ∧ BS w0 F w' b a st l { s with mode := 16 } := by
  have h0 := h.enter (bel_alloc w (tokO t))
  have HA := Lib.hid (fun W (k : BS (w.alloc (tokO t)) (grow F w0 w) W b a st l s) v hv => k.has_ hN 0 v [n_body] hv)
  have HA := Lib.hid (fun W k v hv => hh ▸ HA.out W k v hv)
  clear hh
  go_enter Tryz.func94, Tryz.ntmps94
  go_wp2_with (first | (go_at_call 19; refine (h0.stack_).mono ?_; rintro e w' ⟨rfl, rfl⟩) | (go_at_call 145; refine (HA.out _ (h0.al _) _ (strRow_at [n_body] (by simp) (by decide))).mono ?_; rintro e w2 ⟨rfl, h2⟩) | (go_at_call 43; refine (h2.set_ 16).mono ?_; rintro e w3 ⟨rfl, h3⟩))
  go_end0
  exact ⟨rfl, h.sub (bel_alloc w (tokO t)) h3⟩
set_option maxRecDepth 100000 in
set_option maxHeartbeats 2000000 in
theorem behind_chars (h : BS w0 F w b a st l s) (t : Tok) (hk : t.kind = 7) :
    Calls Tryz.prog 23 #[.pointer (some ⟨b, 0, none⟩), tokV t, .bool false] w fun e w' => e = .returned (.bool true) ∧ BS w0 F w' b a st l { s with mode := 6 } := by
  have h0 := h.enter (bel_alloc w (tokO t))
  have e5 : (t.kind == 5) = false := by rw [hk]; rfl
  have e1 : (t.kind == 1) = false := by rw [hk]; rfl
  have e2 : (t.kind == 2) = false := by rw [hk]; rfl
  have e4 : (t.kind == 4) = false := by rw [hk]; rfl
  have e8 : (t.kind == 8) = false := by rw [hk]; rfl
  have e3 : (t.kind == 3) = false := by rw [hk]; rfl
  clear hk
  go_enter Tryz.func23, Tryz.ntmps23
  go_wp2_with (go_at_call 43; refine (h0.set_ 6).mono ?_; rintro e w3 ⟨rfl, h3⟩)
  go_ret
  exact ⟨rfl, h.sub (bel_alloc w (tokO t)) h3⟩
set_option maxRecDepth 100000 in
set_option maxHeartbeats 2000000 in
theorem behind_comment (h : BS w0 F w b a st l s) (hn : s.nodes.length + 2 ≤ 1048576) (t : Tok) (hk : t.kind = 4) (h00 : 0 ≤ s.at_ 0) :
    Calls Tryz.prog 23 #[.pointer (some ⟨b, 0, none⟩), tokV t, .bool false] w fun e w' => e = .returned (.bool false) ∧ BS w0 F w' b a st l (s.comment t (s.at_ 0)) := by
  have h0 := h.enter (bel_alloc w (tokO t))
  have e5 : (t.kind == 5) = false := by rw [hk]; rfl
  have e1 : (t.kind == 1) = false := by rw [hk]; rfl
  have e2 : (t.kind == 2) = false := by rw [hk]; rfl
  have e4 : (t.kind == 4) = true := by rw [hk]; rfl
  have e8 : (t.kind == 8) = false := by rw [hk]; rfl
  have e3 : (t.kind == 3) = false := by rw [hk]; rfl
  clear hk
  have HS := Lib.hid h0.dr
  have HC := Lib.hid (fun W (k : BS (w.alloc (tokO t)) (grow F w0 w) W b a st l s) => comment_c k hn t (s.at_ 0) h00)
  go_enter Tryz.func23, Tryz.ntmps23
  go_wp2
  go_region_with (first | (go_at_call 19; refine (HS.out.stack_).mono ?_; rintro e w' ⟨rfl, rfl⟩) | (go_at_call 49; refine (HS.out.at_ 0).mono ?_; rintro e w' ⟨rfl, rfl⟩) | (go_at_call 26; refine (HC.out _ HS.out).mono ?_; rintro e w3 ⟨rfl, h3⟩))
  all_goals (
    go_wp2
    go_ret
    exact ⟨rfl, h.sub (bel_alloc w (tokO t)) h3⟩)
end Go.Proofs.YtgaebaokcjhcdaaGreatDoor

/- Behind the body: Step in that mode; does, where a token may be done twice. -/
set_option linter.unusedVariables false
set_option linter.unusedSimpArgs false
namespace Go.Proofs.YtgaebaokcjhcdaaGreatDoor
open Go.RowKit Lz
variable {w0 w w' : World} {F : Nat → Prop} {b a st l n : Nat} {s s' : St}

def StepTrue (b a st l : Nat) (s : St) (t : Tok) (s' : St) : Prop := ∀ w0 F w, BS w0 F w b a st l s → Calls Tryz.prog 8 #[.pointer (some ⟨b, 0, none⟩), tokV t] w fun e w' => e = .returned (.bool true) ∧ BS w0 F w' b a st l s'
set_option maxRecDepth 100000 in
set_option maxHeartbeats 2000000 in
theorem step16 (h : BS w0 F w b a st l s) (hm : s.mode = 16) (t : Tok) (r : Bool) (C : ∀ w0 F w, BS w0 F w b a st l s → Calls Tryz.prog 23 #[.pointer (some ⟨b, 0, none⟩), tokV t, .bool false] w fun e w' => e = .returned (.bool r) ∧ BS w0 F w' b a st l s') :
    Calls Tryz.prog 8 #[.pointer (some ⟨b, 0, none⟩), tokV t] w fun e w' => e = .returned (.bool r) ∧ BS w0 F w' b a st l s' := by
  have h0 := h.enter (bel_alloc w (tokO t))
  have HM := Lib.hid (fun W (k : BS (w.alloc (tokO t)) (grow F w0 w) W b a st l s) => hm ▸ k.mode_)
  have HC := Lib.hid (C _ _ _ h0.dr)
  clear C hm
  go_enter Tryz.func8, Tryz.ntmps8
  go_wp2_with (first | (go_at_call 17; refine (h0.arena_).mono ?_; rintro e w' ⟨rfl, rfl⟩) | (go_at_call 22; refine (HM.out _ h0).mono ?_; rintro e w' ⟨rfl, rfl⟩))
  go_region_with (first | (go_at_call 22; refine (HM.out _ h0.dr).mono ?_; rintro e w' ⟨rfl, rfl⟩) | (go_at_call 23; refine HC.out.mono ?_; rintro e w1 ⟨rfl, h1⟩))
  all_goals (
    go_wp2
    go_ret
    exact ⟨rfl, h.sub (bel_alloc w (tokO t)) h1⟩)
theorem sd_comment16 (hm : s.mode = 16) (hn : s.nodes.length + 2 ≤ 1048576) (t : Tok) (hk : t.kind = 4) (h00 : 0 ≤ s.at_ 0) : StepDoes b a st l s t (s.comment t (s.at_ 0)) :=
  fun w0 F w h => step16 h hm t false fun w0 F w k => behind_comment k hn t hk h00
theorem st_chars16 (hm : s.mode = 16) (x : Str) : StepTrue b a st l s (tChars x) { s with mode := 6 } :=
  fun w0 F w h => step16 h hm (tChars x) true fun w0 F w k => behind_chars k (tChars x) rfl
theorem sd_endBody (hm : s.mode = 6) (hf : Fine n s) (hh : s.has 0 [n_body] = true) : StepDoes b a st l s (tEnd n_body) { s with mode := 16 } :=
  step_body _ hm fun w0 F w h => body_end h (tEnd n_body) rfl (by decide) (by decide) 94 (run_of Tryz.func94 (by kernel_rfl) (by kernel_rfl)) (fun p0 p1 => by kernel_rfl) fun w0 F w k => endBody_c k hf.names hh (tEnd n_body)

inductive DoAll2 (b a st l : Nat) : St → List Tok → St → Prop where
  | nil (s : St) : DoAll2 b a st l s [] s
  | cons (s s1 s' : St) (t : Tok) (ts : List Tok) : StepDoes b a st l s t s1 → DoAll2 b a st l s1 ts s' → DoAll2 b a st l s (t :: ts) s'
  | twice (s s1 s2 s' : St) (t : Tok) (ts : List Tok) : StepTrue b a st l s t s1 → StepDoes b a st l s1 t s2 → DoAll2 b a st l s2 ts s' → DoAll2 b a st l s (t :: ts) s'
set_option maxRecDepth 100000 in
set_option maxHeartbeats 4000000 in
theorem does2_c (h : BS w0 F w b a st l s) (g c : Nat) (ts : List Tok) (hr : TokRow w0 g ts) (hg : g < w0.heap.size) (hF : ¬ F g) (hd : DoAll2 b a st l s ts s') :
    Calls Tryz.prog 12 #[.pointer (some ⟨b, 0, none⟩), .slice (some ⟨g, 0, none⟩) ts.length c] w fun e w' => e = .returned (.tuple #[]) ∧ BS w0 F w' b a st l s' := by
  obtain ⟨hlen, cur, f, hb, hc⟩ := hr
  have HC := Lib.hid (fun (W : World) (k : W.heap[g]? = w0.heap[g]?) i j (hi : i < ts.length) (hj : j < 9) => (blk_cell (k.trans hb) (i * 9 + j)).trans (hc i j hi hj))
  clear hb hc
  go_enter Tryz.func12, Tryz.ntmps12
  go_wp2
  go_loopw [4, 5] (fun x _ wr => ∃ (j : Nat) (s1 : St), j ≤ ts.length ∧ x = .int .i64 j ∧ DoAll2 b a st l s1 (ts.drop j) s' ∧ BS w0 F wr b a st l s1) (fun x _ _ => ts.length - (intOf x).toNat)
  case atStart => exact ⟨0, s, Nat.zero_le _, rfl, hd, h⟩
  case round =>
    obtain ⟨j, s1, hj, rfl, hdo, hB⟩ := hrel
    clear h hd
    by_cases hlt : j < ts.length
    · have hdr : ts.drop j = ts.getD j {} :: ts.drop (j + 1) := by
        rw [List.getD_eq_getElem?_getD, List.getElem?_eq_getElem hlt]; exact List.drop_eq_getElem_cons hlt
      rw [hdr] at hdo
      have hcc := HC.out wr (hB.kept hg hF) j
      have q0 := hcc 0 hlt (by decide); have q1 := hcc 1 hlt (by decide); have q2 := hcc 2 hlt (by decide); have q3 := hcc 3 hlt (by decide); have q4 := hcc 4 hlt (by decide); have q5 := hcc 5 hlt (by decide); have q6 := hcc 6 hlt (by decide); have q7 := hcc 7 hlt (by decide); have q8 := hcc 8 hlt (by decide)
      simp only [tokCl, List.getElem?_cons_succ, List.getElem?_cons_zero, Nat.add_zero] at q0 q1 q2 q3 q4 q5 q6 q7 q8
      have hcell2 := fun w1 (k : BS w0 F w1 b a st l s1) => HC.out w1 (k.kept hg hF) j
      cases hdo with
      | cons _ s2 _ _ _ hst hdo2 =>
        have HS := Lib.hid (hst _ _ _ hB)
        have HD := Lib.hid hdo2
        clear hcc hst hdo2 hdr hcell2
        generalize ts.getD j {} = t at *
        go_wp2
        refine wp_loop_rounds 1 ?_
        rw [rounds_succ]
        go_wp2_with (go_at_call 8; refine HS.out.mono ?_; rintro e w1 ⟨rfl, h1⟩)
        go_roundw
        case rel => exact ⟨j + 1, s2, by omega, by go_num, HD.out, h1⟩
        case measure => simp [intOf]; omega
      | twice _ s2 s3 _ _ _ hst hst2 hdo2 =>
        have HS := Lib.hid (hst _ _ _ hB)
        have HS2 := Lib.hid hst2
        have HD := Lib.hid hdo2
        have HCC := Lib.hid (fun w1 (k : BS w0 F w1 b a st l s2) i (hi : i < 9) => HC.out w1 (k.kept hg hF) j i hlt hi)
        clear hcc hst hst2 hdo2 hdr hcell2
        generalize ts.getD j {} = t at *
        go_wp2
        refine wp_loop_rounds 2 ?_
        rw [rounds_succ]
        go_wp2_with (go_at_call 8; refine HS.out.mono ?_; rintro e w1 ⟨rfl, h1⟩)
        have hc2 := HCC.out w1 h1
        have d0 := hc2 0 (by decide); have d1 := hc2 1 (by decide); have d2 := hc2 2 (by decide); have d3 := hc2 3 (by decide); have d4 := hc2 4 (by decide); have d5 := hc2 5 (by decide); have d6 := hc2 6 (by decide); have d7 := hc2 7 (by decide); have d8 := hc2 8 (by decide)
        simp only [tokCl, List.getElem?_cons_succ, List.getElem?_cons_zero, Nat.add_zero] at d0 d1 d2 d3 d4 d5 d6 d7 d8
        have HS3 := Lib.hid (HS2.out _ _ _ h1)
        clear hc2
        rw [rounds_succ]
        go_wp2_with (go_at_call 8; refine HS3.out.mono ?_; rintro e w2 ⟨rfl, h2⟩)
        go_roundw
        case rel => exact ⟨j + 1, s3, by omega, by go_num, HD.out, h2⟩
        case measure => simp [intOf]; omega
    · have hjl : j = ts.length := by omega
      rw [hjl, List.drop_length] at hdo
      cases hdo with
      | nil =>
        go_wp2
        go_end0
        exact ⟨rfl, hB⟩
end Go.Proofs.YtgaebaokcjhcdaaGreatDoor

/- The law BodiesBehind, in the model. No program in sight. -/
set_option linter.unusedVariables false
set_option linter.unusedSimpArgs false
namespace Go.Proofs.YtgaebaokcjhcdaaGreatDoor.Lz

theorem hang_kids {ns : List Nd} {p i : Int} (hi : (nodeAt ns i).parent = -1) (hp0 : 0 ≤ p) (hp1 : p < (ns.length : Int)) (j : Int) (hj : 0 ≤ j) : (nodeAt (hangN ns p (-1) i) j).kids = if j = p then (nodeAt ns p).kids ++ [i] else (nodeAt ns j).kids := by
  unfold hangN
  simp only [alike_no hi]
  rw [kids_setParent]
  by_cases h : j = p
  · subst h
    rw [if_pos rfl]
    unfold setKids
    rw [nodeAt_modify, if_pos ⟨hj, rfl, by omega⟩]
    rfl
  · rw [if_neg h, kids_setKids _ _ _ hp0 _ h]
theorem hang_parent {ns : List Nd} {p i : Int} (hi : (nodeAt ns i).parent = -1) (j : Int) (hj : 0 ≤ j) (hji : j ≠ i) (hi0 : 0 ≤ i) : (nodeAt (hangN ns p (-1) i) j).parent = (nodeAt ns j).parent := by
  unfold hangN
  simp only [alike_no hi]
  unfold setParent setKids
  rw [nodeAt_modify, if_neg (by omega), nodeAt_modify]
  split <;> rfl

/-- The state behind k rounds. -/
structure Beh (L : Nat) (k n : Nat) (s : St) : Prop where
  fine : Fine n s
  mode : s.mode = 6
  fmts : s.fmts = []
  stk : s.stk = [{ node := 1, name := n_html }, { node := 3, name := n_body }]
  len : s.nodes.length = if k = 0 then 4 else 5 + k
  p0 : (nodeAt s.nodes 0).parent = -1 ∧ (nodeAt s.nodes 0).kind = 1
  p1 : (nodeAt s.nodes 1).parent = 0 ∧ (nodeAt s.nodes 1).kind = 3
  p3 : (nodeAt s.nodes 3).parent = 1 ∧ (nodeAt s.nodes 3).kind = 3 ∧ (nodeAt s.nodes 3).name = n_body ∧ (nodeAt s.nodes 3).space = 0
  kids1 : (nodeAt s.nodes 1).kids.length = 2 + k
  kids3 : (k = 0 ∧ (nodeAt s.nodes 3).kids = []) ∨ 0 < k ∧ (nodeAt s.nodes 3).kids = [5] ∧ (nodeAt s.nodes 5).kind = 4 ∧ (nodeAt s.nodes 5).text.size = k * L

theorem above1 {ns : List Nd} (hl : 4 ≤ ns.length) (h0 : (nodeAt ns 0).parent = -1 ∧ (nodeAt ns 0).kind = 1) (h1 : (nodeAt ns 1).parent = 0 ∧ (nodeAt ns 1).kind = 3) (i : Int) (hi : 4 ≤ i) : aboveN ns i 1 = false := by
  unfold aboveN
  obtain ⟨m, hm⟩ : ∃ m, ns.length + 1 = m + 3 := ⟨ns.length - 2, by omega⟩
  rw [hm]
  have u1 : upN ns 1 = 0 := by unfold upN; rw [h1.2, h1.1]; rfl
  have u0 : upN ns 0 = -1 := by unfold upN; rw [h0.2, h0.1]; rfl
  unfold aboveF
  rw [if_neg (by omega), if_neg (by simp; omega), u1]
  unfold aboveF
  rw [if_neg (by omega), if_neg (by simp; omega), u0]
  unfold aboveF
  rw [if_pos (by omega)]
/-- A comment behind the body. -/
theorem cmt_ok {ns : List Nd} (hl : 4 ≤ ns.length) (h0 : (nodeAt ns 0).parent = -1 ∧ (nodeAt ns 0).kind = 1) (h1 : (nodeAt ns 1).parent = 0 ∧ (nodeAt ns 1).kind = 3) (x : Str) :
    appendN (addN ns (cmtNd x)) 1 (ns.length : Int) = hangN (ns ++ [bareN (cmtNd x)]) 1 (-1) (ns.length : Int) := by
  have hT : isTemplate (cmtNd x) = false := rfl
  rw [addN_plain hT]
  have old : ∀ i : Int, i < (ns.length : Int) → nodeAt (ns ++ [bareN (cmtNd x)]) i = nodeAt ns i := fun i hi => by rw [nodeAt_append, if_pos hi]
  have hnew : nodeAt (ns ++ [bareN (cmtNd x)]) (ns.length : Int) = bareN (cmtNd x) := by rw [nodeAt_append, if_neg (by omega), nodeAt_one, if_pos (by omega)]
  have hlen : (ns ++ [bareN (cmtNd x)]).length = ns.length + 1 := by simp
  unfold appendN
  have : appendE (ns ++ [bareN (cmtNd x)]) 1 (ns.length : Int) = 0 := by
    unfold appendE holdsN hangsN hasN
    rw [hnew, old 1 (by omega), h1.2, above1 (by omega) (by rw [old 0 (by omega)]; exact h0) (by rw [old 1 (by omega)]; exact h1) _ (by omega), hlen]
    have a1 : decide ((1 : Int) < ((ns.length + 1 : Nat) : Int)) = true := by simp; omega
    have a2 : decide ((ns.length : Int) < ((ns.length + 1 : Nat) : Int)) = true := by simp; omega
    have a3 : decide ((0 : Int) ≤ (ns.length : Int)) = true := by simp
    rw [a1, a2, a3]
    rfl
  rw [this]
  rfl
theorem at_addText (ns : List Nd) (p : Int) (x : Str) (i : Int) : (nodeAt (addText ns p x) i).parent = (nodeAt ns i).parent := by
  unfold addText; rw [nodeAt_modify]; split <;> rfl
theorem text_addText (ns : List Nd) (p : Int) (x : Str) (hp : 0 ≤ p) (hl : p < (ns.length : Int)) : (nodeAt (addText ns p x) p).text = (nodeAt ns p).text ++ x := by
  unfold addText; rw [nodeAt_modify, if_pos ⟨hp, rfl, by omega⟩]
/-- One round in the nodes. -/
def roundNs (ns : List Nd) (c tx : Str) : List Nd := textN (appendN (addN ns (cmtNd c)) 1 (ns.length : Int)) 3 (-1) tx
theorem Beh.nodes {L k n : Nat} {s : St} (h : Beh L k n s) (c tx : Str) (hL : tx.size = L) (hne : (tx == n_empty) = false) :
    (roundNs s.nodes c tx).length = 5 + (k + 1) ∧
    ((nodeAt (roundNs s.nodes c tx) 0).parent = -1 ∧ (nodeAt (roundNs s.nodes c tx) 0).kind = 1) ∧
    ((nodeAt (roundNs s.nodes c tx) 1).parent = 0 ∧ (nodeAt (roundNs s.nodes c tx) 1).kind = 3) ∧
    ((nodeAt (roundNs s.nodes c tx) 3).parent = 1 ∧ (nodeAt (roundNs s.nodes c tx) 3).kind = 3 ∧ (nodeAt (roundNs s.nodes c tx) 3).name = n_body ∧ (nodeAt (roundNs s.nodes c tx) 3).space = 0) ∧
    (nodeAt (roundNs s.nodes c tx) 1).kids.length = 2 + (k + 1) ∧
    ((nodeAt (roundNs s.nodes c tx) 3).kids = [5] ∧ (nodeAt (roundNs s.nodes c tx) 5).kind = 4 ∧ (nodeAt (roundNs s.nodes c tx) 5).text.size = (k + 1) * L) := by
  have hl4 : 4 ≤ s.nodes.length := by rw [h.len]; split <;> omega
  have hlen := h.len
  have p0 := h.p0; have p1 := h.p1; have p3 := h.p3; have k1 := h.kids1; have k3 := h.kids3
  clear h
  generalize s.nodes = ns at *
  unfold roundNs
  rw [cmt_ok hl4 p0 p1]
  have old : ∀ i : Int, i < (ns.length : Int) → nodeAt (ns ++ [bareN (cmtNd c)]) i = nodeAt ns i := fun i hi => by rw [nodeAt_append, if_pos hi]
  have hnew : nodeAt (ns ++ [bareN (cmtNd c)]) (ns.length : Int) = bareN (cmtNd c) := by rw [nodeAt_append, if_neg (by omega), nodeAt_one, if_pos (by omega)]
  have hpar : (nodeAt (ns ++ [bareN (cmtNd c)]) (ns.length : Int)).parent = -1 := by rw [hnew]; rfl
  have hal := alike_hangN (ns ++ [bareN (cmtNd c)]) 1 (-1) (ns.length : Int)
  have hK := fun j hj => hang_kids (p := 1) hpar (by decide) (by simp; omega) j hj
  have hP := fun j hj hji => hang_parent (p := 1) hpar j hj hji (by omega)
  have l1 : (hangN (ns ++ [bareN (cmtNd c)]) 1 (-1) (ns.length : Int)).length = ns.length + 1 := by rw [hal.1]; simp
  generalize hangN (ns ++ [bareN (cmtNd c)]) 1 (-1) (ns.length : Int) = N1 at *
  have q0 : (nodeAt N1 0).parent = -1 ∧ (nodeAt N1 0).kind = 1 := ⟨by rw [hP 0 (by decide) (by omega), old 0 (by omega)]; exact p0.1, by rw [(hal.2 0).2.2.1, old 0 (by omega)]; exact p0.2⟩
  have q1 : (nodeAt N1 1).parent = 0 ∧ (nodeAt N1 1).kind = 3 := ⟨by rw [hP 1 (by decide) (by omega), old 1 (by omega)]; exact p1.1, by rw [(hal.2 1).2.2.1, old 1 (by omega)]; exact p1.2⟩
  have q3 : (nodeAt N1 3).parent = 1 ∧ (nodeAt N1 3).kind = 3 ∧ (nodeAt N1 3).name = n_body ∧ (nodeAt N1 3).space = 0 := ⟨by rw [hP 3 (by decide) (by omega), old 3 (by omega)]; exact p3.1, by rw [(hal.2 3).2.2.1, old 3 (by omega)]; exact p3.2.1, by rw [(hal.2 3).1, old 3 (by omega)]; exact p3.2.2.1, by rw [(hal.2 3).2.2.2.1, old 3 (by omega)]; exact p3.2.2.2⟩
  have r1 : (nodeAt N1 1).kids.length = 2 + (k + 1) := by rw [hK 1 (by decide), if_pos rfl, old 1 (by omega), List.length_append, k1]; rfl
  have r3 : (nodeAt N1 3).kids = (nodeAt ns 3).kids := by rw [hK 3 (by decide), if_neg (by decide), old 3 (by omega)]
  have hE : textE N1 3 (-1) = 0 := by
    unfold textE holdsN hasN
    rw [q3.2.1]
    have a1 : decide ((3 : Int) < (N1.length : Int)) = true := by simp; omega
    rw [a1]; rfl
  rcases k3 with ⟨rfl, k3⟩ | ⟨hk, k3, t5, z5⟩
  · have hl : ns.length = 4 := by simpa using hlen
    have e : (nodeAt N1 3).kids = [] := r3.trans k3
    have hT : isTemplate (⟨4, n_empty, tx, 0, [], false, 0, 0, [], -1, -1⟩ : Nd) = false := rfl
    have hlN : N1.length = 5 := by omega
    have ht : textN N1 3 (-1) tx = hangN (addN N1 ⟨4, n_empty, tx, 0, [], false, 0, 0, [], -1, -1⟩) 3 (-1) (N1.length : Int) := by
      unfold textN
      rw [hE, hne]
      simp only [e]
      rfl
    rw [ht, addN_plain hT]
    generalize hb : bareN (⟨4, n_empty, tx, 0, [], false, 0, 0, [], -1, -1⟩ : Nd) = bn
    have hbp : bn.parent = -1 := by rw [← hb]; rfl
    have hbk : bn.kind = 4 := by rw [← hb]; rfl
    have hbt : bn.text = tx := by rw [← hb]; rfl
    have old2 : ∀ i : Int, i < (N1.length : Int) → nodeAt (N1 ++ [bn]) i = nodeAt N1 i := fun i hi => by rw [nodeAt_append, if_pos hi]
    have hnew2 : nodeAt (N1 ++ [bn]) (N1.length : Int) = bn := by rw [nodeAt_append, if_neg (by omega), nodeAt_one, if_pos (by omega)]
    have hpar2 : (nodeAt (N1 ++ [bn]) (N1.length : Int)).parent = -1 := by rw [hnew2]; exact hbp
    have hal2 := alike_hangN (N1 ++ [bn]) 3 (-1) (N1.length : Int)
    have hK2 := fun j hj => hang_kids (p := 3) hpar2 (by decide) (by simp; omega) j hj
    have hP2 := fun j hj hji => hang_parent (p := 3) hpar2 j hj hji (by omega)
    have hl5 : (N1.length : Int) = 5 := by omega
    rw [hl5] at old2 hnew2 hpar2 hal2 hK2 hP2 ⊢
    refine ⟨by rw [hal2.1]; simp; omega, ⟨?_, ?_⟩, ⟨?_, ?_⟩, ⟨?_, ?_, ?_, ?_⟩, ?_, ?_, ?_, ?_⟩
    · rw [hP2 0 (by decide) (by decide), old2 0 (by decide)]; exact q0.1
    · rw [(hal2.2 0).2.2.1, old2 0 (by decide)]; exact q0.2
    · rw [hP2 1 (by decide) (by decide), old2 1 (by decide)]; exact q1.1
    · rw [(hal2.2 1).2.2.1, old2 1 (by decide)]; exact q1.2
    · rw [hP2 3 (by decide) (by decide), old2 3 (by decide)]; exact q3.1
    · rw [(hal2.2 3).2.2.1, old2 3 (by decide)]; exact q3.2.1
    · rw [(hal2.2 3).1, old2 3 (by decide)]; exact q3.2.2.1
    · rw [(hal2.2 3).2.2.2.1, old2 3 (by decide)]; exact q3.2.2.2
    · rw [hK2 1 (by decide), if_neg (by decide), old2 1 (by decide)]; exact r1
    · rw [hK2 3 (by decide), if_pos rfl, old2 3 (by decide), e]; rfl
    · rw [(hal2.2 5).2.2.1, hnew2]; exact hbk
    · rw [(hal2.2 5).2.1, hnew2, hbt, hL]; omega
  · have hl : ns.length = 5 + k := by rw [hlen, if_neg (by omega)]
    have e : (nodeAt N1 3).kids = [5] := r3.trans k3
    have t5' : (nodeAt N1 5).kind = 4 := by rw [(hal.2 5).2.2.1, old 5 (by omega)]; exact t5
    have z5' : (nodeAt N1 5).text.size = k * L := by rw [(hal.2 5).2.1, old 5 (by omega)]; exact z5
    have ht : textN N1 3 (-1) tx = addText N1 5 tx := by
      unfold textN
      rw [hE, hne]
      simp only [e]
      show (if (decide (0 < 1) && (nodeAt N1 5).kind == 4) = true then addText N1 5 tx else _) = _
      rw [t5']
      rfl
    rw [ht]
    have ha := alk_addText N1 5 tx
    refine ⟨by rw [ha.1]; omega, ⟨?_, ?_⟩, ⟨?_, ?_⟩, ⟨?_, ?_, ?_, ?_⟩, ?_, ?_, ?_, ?_⟩
    · rw [at_addText]; exact q0.1
    · rw [(ha.2 0).2.1]; exact q0.2
    · rw [at_addText]; exact q1.1
    · rw [(ha.2 1).2.1]; exact q1.2
    · rw [at_addText]; exact q3.1
    · rw [(ha.2 3).2.1]; exact q3.2.1
    · rw [(ha.2 3).1]; exact q3.2.2.1
    · rw [(ha.2 3).2.2]; exact q3.2.2.2
    · rw [kids_addText]; exact r1
    · rw [kids_addText]; exact e
    · rw [(ha.2 5).2.1]; exact t5'
    · rw [text_addText _ _ _ (by decide) (by omega), ByteArray.size_append, z5', hL, Nat.add_mul]; omega
end Go.Proofs.YtgaebaokcjhcdaaGreatDoor.Lz

/- BodiesBehind: what the law's tokens do. -/
set_option linter.unusedVariables false
set_option linter.unusedSimpArgs false
namespace Go.Proofs.YtgaebaokcjhcdaaGreatDoor
open Go.RowKit Lz
variable {w0 w w' : World} {F : Nat → Prop} {b a st l n L k : Nat} {s s' : St}

def g_c : Str := ⟨#[99]⟩
def tCmt : Tok := { kind := 4, text := g_c }
def roundT (s : St) (tx : Str) : St := { s with nodes := roundNs s.nodes g_c tx }
theorem place3 {s : St} (hf : s.foster = false) (h1 : (nodeAt s.nodes 3).name = n_body) (h2 : (nodeAt s.nodes 3).space = 0) (h3 : (nodeAt s.nodes 3).kind = 3) : s.place 3 = (3, -1) := by
  unfold St.place
  rw [hf]
  simp only [Bool.false_and, Bool.false_eq_true, if_false]
  have : St.htmlNd (s.node 3) [n_template] = false := by
    unfold St.htmlNd St.node; rw [h1, h2, h3]; decide
  rw [this]; rfl
theorem beh_round (h : Beh L k n s) (tx : Str) (hL : tx.size = L) (hz : tx.size ≤ 1048576) (hne : (tx == n_empty) = false) (hn : n + 8 ≤ 1048576) :
    Beh L (k + 1) (n + 2) (roundT s tx) ∧ DoAll2 b a st l s [tEnd n_body, tCmt, tChars tx] (roundT s tx) := by
  have hl4 : 4 ≤ s.nodes.length := by rw [h.len]; split <;> omega
  have hh : s.has 0 [n_body] = true := by unfold St.has St.el; rw [h.stk]; decide +kernel
  have f1 : Fine n { s with mode := 16 } := h.fine.set 16
  have ha : St.at_ { s with mode := 16 } 0 = 1 := by unfold St.at_ St.el; simp only [h.stk]; rfl
  have e2 : St.comment { s with mode := 16 } tCmt 1 = { s with mode := 16, nodes := appendN (addN s.nodes (cmtNd g_c)) 1 (s.nodes.length : Int) } := comment_eq _ tCmt 1 (by decide)
  have f2 := f1.comment tCmt 1 (by decide)
  rw [e2] at f2
  have f3 := f2.set 6
  have hT : isTemplate (cmtNd g_c) = false := rfl
  have hal := alike_appendN (addN s.nodes (cmtNd g_c)) 1 (s.nodes.length : Int)
  have h3 : nodeAt (addN s.nodes (cmtNd g_c)) 3 = nodeAt s.nodes 3 := by rw [Lz.addN_plain hT, nodeAt_append, if_pos (by omega)]
  have hpl := place3 (s := { s with mode := 6, nodes := appendN (addN s.nodes (cmtNd g_c)) 1 (s.nodes.length : Int) }) h.fine.foster (by rw [(hal.2 3).1, h3]; exact h.p3.2.2.1) (by rw [(hal.2 3).2.2.2.1, h3]; exact h.p3.2.2.2) (by rw [(hal.2 3).2.2.1, h3]; exact h.p3.2.1)
  have hr : Reb { s with mode := 6, nodes := appendN (addN s.nodes (cmtNd g_c)) 1 (s.nodes.length : Int) } := by unfold Reb St.lost; simp only [h.fmts]; rfl
  have hrb : St.rebuild { s with mode := 6, nodes := appendN (addN s.nodes (cmtNd g_c)) 1 (s.nodes.length : Int) } = { s with mode := 6, nodes := appendN (addN s.nodes (cmtNd g_c)) 1 (s.nodes.length : Int) } := by unfold St.rebuild St.lost; simp only [h.fmts]; rfl
  have hst : St.target { s with mode := 6, nodes := appendN (addN s.nodes (cmtNd g_c)) 1 (s.nodes.length : Int) } = 3 := by unfold St.target St.top St.at_ St.el; simp only [h.stk]; rfl
  have hch : (St.rebuild { s with mode := 6, nodes := appendN (addN s.nodes (cmtNd g_c)) 1 (s.nodes.length : Int) }).chars tx = roundT s tx := by
    rw [hrb]
    unfold St.chars
    simp only [hst, hpl]
    unfold roundT roundNs
    have hm := h.mode
    cases s
    simp only at hm
    subst hm
    rfl
  have f4 := f3.chars tx hz
  have f4' : Fine (n + 2) (roundT s tx) := by rw [← hch, hrb]; exact f4
  have N := h.nodes g_c tx hL hne
  refine ⟨⟨f4', h.mode, h.fmts, h.stk, by rw [if_neg (by omega)]; exact N.1, N.2.1, N.2.2.1, N.2.2.2.1, N.2.2.2.2.1, .inr ⟨by omega, N.2.2.2.2.2⟩⟩, ?_⟩
  refine .cons _ _ _ _ _ (sd_endBody h.mode h.fine hh) (.cons _ { s with mode := 16, nodes := appendN (addN s.nodes (cmtNd g_c)) 1 (s.nodes.length : Int) } _ _ _ ?_ (.twice _ { s with mode := 6, nodes := appendN (addN s.nodes (cmtNd g_c)) 1 (s.nodes.length : Int) } _ _ _ _ (st_chars16 rfl tx) ?_ (.nil _)))
  · have := sd_comment16 (b := b) (a := a) (st := st) (l := l) (s := { s with mode := 16 }) rfl (by have := h.fine.room; show s.nodes.length + 2 ≤ _; omega) tCmt rfl (by rw [ha]; decide)
    rw [ha, e2] at this
    exact this
  · have := sd_chars (b := b) (a := a) (st := st) (l := l) (s := { s with mode := 6, nodes := appendN (addN s.nodes (cmtNd g_c)) 1 (s.nodes.length : Int) }) rfl f3 (by omega) hr tx hz
    rw [hch] at this
    exact this
theorem beh_opened (L : Nat) : Beh L 0 4 (openedSt false) :=
  ⟨fine_opened, by kernel_rfl, by kernel_rfl, by kernel_rfl, by kernel_rfl, ⟨by kernel_rfl, by kernel_rfl⟩, ⟨by kernel_rfl, by kernel_rfl⟩, ⟨by kernel_rfl, by kernel_rfl, by kernel_rfl, by kernel_rfl⟩, by kernel_rfl, .inl ⟨rfl, by kernel_rfl⟩⟩
end Go.Proofs.YtgaebaokcjhcdaaGreatDoor

/- The law BodiesBehind, walked. -/
set_option linter.unusedVariables false
set_option linter.unusedSimpArgs false
namespace Go.Proofs.YtgaebaokcjhcdaaGreatDoor
open Go.RowKit Lz

set_option maxRecDepth 100000 in
set_option maxHeartbeats 8000000 in
theorem bodiesBehind_c (w : World) (hB : Base w) (tx : Str) (often : Int) (hw0 : 0 ≤ often) (hw1 : often < 256) :
    Calls Tryz.prog 7 #[.string tx, .int .u8 often] w fun e w' => e = .returned (.bool true) ∧ Bel w w' := by
  have HB := Lib.hid hB
  clear hB
  have HST := Lib.hid (stands_c w HB.out)
  by_cases h100 : 100 < tx.size
  · have e1 : decide ((tx.size : Int) > 100) = true := by simpa using (by omega : (100 : Int) < tx.size)
    go_enter Tryz.func7, Tryz.ntmps7
    go_wp2_with (go_at_call 10; refine HST.out.mono ?_; rintro e w1 ⟨rfl, hb1⟩)
    go_ret
    exact ⟨rfl, hb1⟩
  · have e1 : decide ((tx.size : Int) > 100) = false := by simpa using (by omega : (tx.size : Int) ≤ 100)
    cases e2 : tx.toList.isEmpty with
    | true =>
      go_enter Tryz.func7, Tryz.ntmps7
      go_wp2_with (go_at_call 10; refine HST.out.mono ?_; rintro e w1 ⟨rfl, hb1⟩)
      go_ret
      exact ⟨rfl, hb1⟩
    | false =>
      have hne : (tx == n_empty) = false := by rw [emptyS] at e2; exact e2
      obtain ⟨K, hK⟩ : ∃ K : Nat, often % 10 = (K : Int) := ⟨(often % 10).toNat, by omega⟩
      have hK9 : K ≤ 9 := by omega
      have hz : tx.size ≤ 1048576 := by omega
      have HNE := Lib.hid hne
      clear hne HST
      go_enter Tryz.func7, Tryz.ntmps7
      go_wp2_with fail
      refine (opened_c _ HB.out.glob HB.out.laid false).mono ?_
      rintro e w1 ⟨b, a, st, l, sp, rfl, ns, op, hb1, Fb, Fs, hBR, hSR, h1, h2, h3⟩
      have hstart : BS w1 Fb w1 b a st l (openedSt false) := hBR.start (fun k hk => (h1 k hk).2)
      have hFb : ∀ k, Fb k → w.heap.size ≤ k := fun k hk => (h1 k hk).1
      have HB1 := Lib.hid hb1; have HFB := Lib.hid hFb
      clear hFb h1 h2 h3 hSR hBR hb1
      go_wp2_with fail
      go_loopw [7] (fun y wr => ∃ (j : Nat) (s2 : St), j ≤ K ∧ y = .int .i64 j ∧ Beh tx.size j (4 + 2 * j) s2 ∧ BS w1 Fb wr b a st l s2) (fun y _ => K - (intOf y).toNat)
      case atStart => exact ⟨0, _, Nat.zero_le _, rfl, beh_opened _, hstart⟩
      case round =>
        obtain ⟨j, s2, hj, rfl, hS2, kr⟩ := hrel
        clear hstart
        by_cases hlt : j < K
        · go_wp2_with fail
          refine (end_c _ _).mono ?_
          rintro e v1 ⟨rfl, c1⟩
          replace kr := kr.bel c1
          clear c1
          go_wp2_with fail
          refine (chars_c _ _).mono ?_
          rintro e v3 ⟨rfl, c1⟩
          replace kr := kr.bel c1
          clear c1
          go_wp2_with fail
          have kk := kr.enter (bel_alloc v3 (.cells ([tEnd n_body, tCmt, tChars tx].flatMap tokCl).toArray 24 (0, 0)))
          have n3 : ¬ grow Fb w1 v3 v3.heap.size := fun hk => by have := kr.blt _ hk; omega
          have hR := beh_round (b := b) (a := a) (st := st) (l := l) hS2 tx rfl hz HNE.out (by omega)
          refine (does2_c kk v3.heap.size 3 [tEnd n_body, tCmt, tChars tx] (tokRow_new v3 [tEnd n_body, tCmt, tChars tx] (by simp)) (by simp) n3 hR.2).mono ?_
          rintro e v4 ⟨rfl, h4⟩
          have k4 := kr.sub (bel_alloc v3 _) h4
          have hS3 := hR.1
          clear h4 kk n3 kr hR hS2
          generalize roundT s2 tx = s3 at *
          have hM := k4.mode_
          rw [hS3.mode] at hM
          have HS3 := Lib.hid hS3
          clear hS3
          go_wp2_with (go_at_call 22; refine hM.mono ?_; rintro e w' ⟨rfl, rfl⟩)
          go_roundw
          case rel => exact ⟨j + 1, s3, by omega, by go_num, HS3.out, k4⟩
          case measure => simp [intOf]; omega
        · have hjm : j = K := by omega
          subst hjm
          have HS := Lib.hid hS2
          clear hS2
          go_wp2_with fail
          refine (kr.arena_).mono ?_
          rintro e w' ⟨rfl, rfl⟩
          go_wp2_with fail
          refine (kr.tree_).mono ?_
          rintro e w3 ⟨v, rfl, hT, k3⟩
          obtain ⟨g, cap, cur, va, vk, rfl, hG, hb, hcap, hc, hk, hva⟩ := hT
          have hbw : Bel w w3 := bel_mut HB1.out k3.mtd HFB.out
          have HST := Lib.hid (stands_c w3 (Base.bel HB.out hbw))
          have hlen := HS.out.len
          by_cases hj0 : j = 0
          · subst hj0
            have hl4 : s2.nodes.length = 4 := hlen
            rw [hl4]
            clear hk hc hva hlen
            go_wp2_with (go_at_call 10; refine HST.out.mono ?_; rintro e w7 ⟨rfl, hb7⟩)
            go_ret
            exact ⟨rfl, bel_tr hbw hb7⟩
          · rw [if_neg hj0] at hlen
            have rd := fun i cc (hi : i < s2.nodes.length) (hcc : cc < 11) => (blk_cell hb (i * 11 + cc)).trans (hc i cc hi hcc)
            have g1 : s2.nodes.getD 1 nd0 = nodeAt s2.nodes 1 := rfl
            have g3 : s2.nodes.getD 3 nd0 = nodeAt s2.nodes 3 := rfl
            have g5 : s2.nodes.getD 5 nd0 = nodeAt s2.nodes 5 := rfl
            obtain ⟨A1, z1, hv1⟩ := (hk 1 (by omega)).shape
            have c1 := rd 1 8 (by omega) (by decide)
            have c3 := rd 3 8 (by omega) (by decide)
            have c5 := rd 5 2 (by omega) (by decide)
            have hk3 := hk 3 (by omega)
            rw [g1] at c1 hv1
            rw [g3] at c3 hk3
            rw [g5] at c5
            have K1 := HS.out.kids1
            obtain ⟨_, k3', t5, z5⟩ : 0 < j ∧ (nodeAt s2.nodes 3).kids = [5] ∧ (nodeAt s2.nodes 5).kind = 4 ∧ (nodeAt s2.nodes 5).text.size = j * tx.size := by
              rcases HS.out.kids3 with ⟨h, _⟩ | h
              · exact absurd h hj0
              · exact h
            rw [k3'] at hk3
            rcases hk3 with ⟨_, h⟩ | ⟨q, capq, curq, hv3, _, hbq, _, _, _, hcq⟩
            · cases h
            · rw [hv1, K1] at c1
              rw [hv3] at c3
              simp only [ndCells, List.getElem?_cons_succ, List.getElem?_cons_zero, Nat.reduceMul, Nat.reduceAdd, List.length_cons, List.length_nil] at c1 c3 c5
              have cq : w3.cell? ⟨q, 0, none⟩ = some (.int .i64 5) := (blk_cell hbq 0).trans (hcq 0 (by decide))
              generalize (nodeAt s2.nodes 5).text = x5 at *
              have hb9 : j * tx.size ≤ 9 * 100 := Nat.mul_le_mul hK9 (by omega)
              have hx5 : (x5.size : Int) = (j : Int) * (tx.size : Int) := by rw [z5]; exact Int.natCast_mul _ _
              have hx9 : (j : Int) * (tx.size : Int) ≤ 900 := by omega
              have hx0 : 0 ≤ (j : Int) * (tx.size : Int) := by omega
              have wm : IntKind.i64.wrap ((j : Int) * (tx.size : Int)) = (j : Int) * (tx.size : Int) := IntWalk.i64_in _ (by omega)
              have ek : ((2 + j : Nat) : Int) = 2 + (j : Int) := by omega
              have ej : ((j : Int) == 0) = false := by simp; omega
              have ej4 : decide (5 + (j : Int) < 4) = false := by simp; omega
              clear hk hc hva rd z5 K1 k3' t5 hbq hcq hb
              go_wp2_with (go_at_call 10; refine HST.out.mono ?_; rintro e w7 ⟨rfl, hb7⟩)
              go_ret
              exact ⟨rfl, bel_tr hbw hb7⟩
end Go.Proofs.YtgaebaokcjhcdaaGreatDoor

/- The row of BodiesBehind. -/
set_option linter.unusedVariables false
set_option linter.unusedSimpArgs false
namespace Go.Proofs.YtgaebaokcjhcdaaGreatDoor
open Go.ChangeShapes Go.WideShapes Go.ChangeAt Go.RowKit Go.Deep Go.ChangeMaps Lz

set_option maxRecDepth 100000 in
theorem liftedB (os : Os) (started : os.Started) (H : Type) (enc : TypeId × Value → H) :
    ReturnsInHanded {} Tryz.checked os 7 .any (fun w args => (Rows.bodiesBehindSpec.pre enc Tryz.prog Tryz.f7 [] false w args ∧ laidMetH Tryz.prog rowLaid w) ∧ sizedMet enc Tryz.prog Tryz.f7 (OpenSpec.ofChange Rows.bodiesBehindSpec) false w args)
      (Rows.bodiesBehindSpec.post enc Tryz.prog Tryz.f7 false true false false) := by
  have wit := ChangeSpec.witness_shaped (enc := enc) (C := Tryz.checked) (os := os) (f := 7) (fn := Tryz.f7) (s := Rows.bodiesBehindSpec) (conds := []) (apart := false) (X := fun w _ => laidMetH Tryz.prog rowLaid w) false (World.doorLaid Tryz.prog 103 os)
    #[.string ⟨#[]⟩, .int .u8 0] 8 rfl (World.shaped_of_RefB (by kernel_rfl) (by kernel_rfl)) (by kernel_rfl) (by kernel_rfl) (by kernel_rfl) (door_met os _)
  refine returnsInHanded_of_row (C := Tryz.checked) (s := OpenSpec.ofChange Rows.bodiesBehindSpec) (F := fun _ _ _ => 0) (conds := []) (laid := rowLaid) rowOwn started (by kernel_rfl) Tryz.func7 wit ?_
  intro W base args ds gs before hval0 hW _ _ _ hL hsh _
  have hval : ∀ (j : Nat) t v, Tryz.f7.params[j]? = some t → args[j]? = some v → Value.okWide Tryz.prog W .any base t v := hval0
  have hW' := hW
  obtain ⟨p, q, hA0, hV, rfl, hfz, hnd⟩ := hW
  have hA : DataW.TrodAll enc Tryz.prog W 0 (fun _ => true) true Tryz.f7.params.toList args.toList ds p := hA0
  rw [Tryz.params7] at hA hval
  obtain ⟨v0, v1, d0, d1, p0, p1, rfl, rfl, rfl, h0, h1⟩ := trodAll_two hA
  obtain ⟨rfl, rfl⟩ := trodVars_none hV
  obtain ⟨tx, rfl, rfl, rfl, hsz⟩ := open_string Tryz.underlying9 (hval 0 9 v0 rfl rfl) h0
  obtain ⟨often, rfl, rfl, rfl, hwf⟩ := open_int Tryz.underlying5 (hval 1 5 v1 rfl rfl) h1
  simp only [List.append_nil, List.nil_append] at hW'
  have hB : Base W := base_of_laid hL hsh
  obtain ⟨z0, z1⟩ := wf_u8 hwf
  refine (bodiesBehind_c W hB tx often z0 z1).mono fun e W' ⟨he, hb⟩ => ?_
  subst he
  refine ⟨_, rfl, post_of_below (pa := []) (pv := []) hW' (fun _ _ _ => trodAll_mk1 (shut_bool Tryz.underlying4 _)) (fun sp hsp => ?_) (fun _ _ => rfl) (by simp) hb (ok_one (by kernel_rfl) rfl (okWide_bool_mk Tryz.underlying4 _))⟩
  exact trodAll_mk2 (shut_string Tryz.underlying9 hsz) (shut_int Tryz.underlying5 hwf)

theorem bodiesBehind_holds : Rows.BodiesBehindSaid :=
  OpenClaim.holds_of_wide 7 Tryz.f7 rfl rfl rfl rfl rfl rfl rfl ⟨rfl, rfl, rfl, rfl, rfl⟩ rfl rfl rfl rfl rfl (by kernel_rfl) Tryz.func7 (by kernel_rfl)
    (of_decide_eq_true (by kernel_rfl)) (by unfold Func.isWrapper; first | (rw [if_pos (by decide +kernel)]; kernel_rfl) | (rw [if_neg (by decide +kernel)]; exact ⟨rfl, rfl⟩))
    (fun os started H enc _ => liftedB os started H enc)
end Go.Proofs.YtgaebaokcjhcdaaGreatDoor
