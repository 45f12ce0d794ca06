/- bodies.Body: an end tag that has no rule. -/
import Derived.Test.YtgaebaokcjhcdaaGreatDoorM17

set_option linter.unusedVariables false
set_option linter.unusedSimpArgs false
namespace Go.Proofs.YtgaebaokcjhcdaaGreatDoor
open Go.RowKit Lz
variable {w0 w w' : World} {F : Nat → Prop} {b a st l n : Nat} {s s' : St}

theorem bodyOne_c (h : BS w0 F w b a st l s) (hf : Fine n s) (t : Tok) :
    Calls Tryz.prog 32 #[.pointer (some ⟨b, 0, none⟩), tokV t] w fun e w' => e = .returned (.tuple #[]) ∧ BS w0 F w' b a st l (s.other t.name) := by
  have h0 := h.enter (bel_alloc w (tokO t))
  have HO := Lib.hid (other_c h0 hf t.name)
  go_enter Tryz.func32, Tryz.ntmps32
  go_wp2_with (go_at_call 33; refine (HO.out).mono ?_; rintro e w2 ⟨rfl, h2⟩)
  go_end0
  exact ⟨rfl, h.sub (bel_alloc w (tokO t)) h2⟩
set_option maxRecDepth 100000 in
set_option maxHeartbeats 4000000 in
theorem body_end_none (h : BS w0 F w b a st l s) (hf : Fine n s) (t : Tok) (hk : t.kind = 3) (hz : t.name.size < 1000000) (hh : (t.name == n_html) = false) (hit : ∀ p0 p1, hitOf (endRows p0 p1) (fun _ => true) t.name = none) :
    Calls Tryz.prog 9 #[.pointer (some ⟨b, 0, none⟩), tokV t] w fun e w' => e = .returned (.bool false) ∧ BS w0 F w' b a st l (s.other t.name) := by
  have h0 := h.enter (bel_alloc w (tokO t))
  have HST := Lib.hid (fun W (k : BS (w.alloc (tokO t)) (grow F w0 w) W b a st l s) => k.ends_)
  have HC := Lib.hid (fun w0 F w (k : BS w0 F w b a st l s) => bodyOne_c k hf t)
  have HH := Lib.hid h
  have e5 : (t.kind == 5) = false := by rw [hk]; rfl
  have e7 : (t.kind == 7) = false := by rw [hk]; rfl
  have e4 : (t.kind == 4) = false := by rw [hk]; rfl
  have e8 : (t.kind == 8) = false := by rw [hk]; rfl
  have e2 : (t.kind == 2) = false := by rw [hk]; rfl
  have e3 : (t.kind == 3) = true := by rw [hk]; rfl
  have eh : (t.name.toList == [104, 116, 109, 108]) = false := by rw [← hh]; exact beqD t.name n_html
  clear hk hh
  go_enter Tryz.func9, Tryz.ntmps9
  go_wp2_with (go_at_call 17; refine (h0.arena_).mono ?_; rintro e w' ⟨rfl, rfl⟩)
  have hnil : ∀ (w : World), (binOp BinOp.eql 64 .nilFunc .nilFunc).run Tryz.prog w = .ok (.bool true) w := fun _ => by kernel_rfl
  have HZ := Lib.hid hz; have HIT := Lib.hid hit
  clear hz hit
  go_region_with (go_at_call 31; refine (HST.out _ (h0.bel (by repeat (first | exact Below.refl _ _ | exact bel_alloc _ _ | apply bel_dr | apply bel_drN)))).mono ?_; rintro e w1 ⟨B, p0, p1, rfl, hS⟩; have hlk := ends_look hS t.name HZ.out; rw [HIT.out p0 p1] at hlk; simp only [Option.getD_none] at hlk; have hb1 := bel_tr (show Bel (w.alloc (tokO t)) _ from (by repeat (first | exact Below.refl _ _ | exact bel_alloc _ _ | apply bel_dr | apply bel_drN))) hS.bel; have hbx := bel_box hb1)
  all_goals (
    go_wp2_with (go_at_call 32; refine (HC.out _ _ _ (h0.bel hb1)).mono ?_; rintro e w2 ⟨rfl, h2⟩; have hbx2 := HH.out.boxed h2)
    go_ret
    exact ⟨rfl, HH.out.sub (bel_alloc w (tokO t)) h2⟩)
end Go.Proofs.YtgaebaokcjhcdaaGreatDoor

/- The law BodiesSingle, in the model: what its tokens keep. No program in sight. -/
set_option linter.unusedVariables false
set_option linter.unusedSimpArgs false
namespace Go.Proofs.YtgaebaokcjhcdaaGreatDoor.Lz

/-- Of the nodes from the fifth on none has kids; the first four have their names. -/
structure Bare (ns : List Nd) : Prop where
  len : 4 ≤ ns.length
  bare : ∀ i : Int, 4 ≤ i → (nodeAt ns i).kids = []
  n0 : (nodeAt ns 0).name = n_empty
  n1 : (nodeAt ns 1).name = n_html ∧ (nodeAt ns 1).space = 0
  n2 : (nodeAt ns 2).name = n_head
  n3 : (nodeAt ns 3).name = n_body ∧ (nodeAt ns 3).space = 0 ∧ (nodeAt ns 3).kind = 3
def Alk (ns ns' : List Nd) : Prop := ns'.length = ns.length ∧ ∀ i, (nodeAt ns' i).name = (nodeAt ns i).name ∧ (nodeAt ns' i).kind = (nodeAt ns i).kind ∧ (nodeAt ns' i).space = (nodeAt ns i).space
theorem Alk.of {ns ns' : List Nd} (h : Alike ns ns') : Alk ns ns' := ⟨h.1, fun i => ⟨(h.2 i).1, (h.2 i).2.2.1, (h.2 i).2.2.2.1⟩⟩
theorem alk_addText (ns : List Nd) (p : Int) (x : Str) : Alk ns (addText ns p x) := by
  refine ⟨by simp [addText], fun i => ?_⟩
  unfold addText
  rw [nodeAt_modify]
  split <;> exact ⟨rfl, rfl, rfl⟩
theorem Bare.alike {ns ns' : List Nd} (h : Bare ns) (ha : Alk ns ns') (hk : ∀ i : Int, 4 ≤ i → (nodeAt ns' i).kids = (nodeAt ns i).kids ∨ (nodeAt ns' i).kids = []) : Bare ns' := by
  refine ⟨by rw [ha.1]; exact h.len, fun i hi => ?_, (ha.2 0).1.trans h.n0, ⟨(ha.2 1).1.trans h.n1.1, (ha.2 1).2.2.trans h.n1.2⟩, (ha.2 2).1.trans h.n2, ⟨(ha.2 3).1.trans h.n3.1, (ha.2 3).2.2.trans h.n3.2.1, (ha.2 3).2.1.trans h.n3.2.2⟩⟩
  rcases hk i hi with e | e
  · rw [e]; exact h.bare i hi
  · exact e
theorem kids_setParent (ns : List Nd) (p q i : Int) : (nodeAt (setParent ns p q) i).kids = (nodeAt ns i).kids := by
  unfold setParent; rw [nodeAt_modify]; split <;> rfl
theorem kids_setKids (ns : List Nd) (p : Int) (l : List Int) (hp : 0 ≤ p) (i : Int) (hi : i ≠ p) : (nodeAt (setKids ns p l) i).kids = (nodeAt ns i).kids := by
  unfold setKids; rw [nodeAt_modify]; split
  · omega
  · rfl
theorem kids_addText (ns : List Nd) (p : Int) (x : Str) (i : Int) : (nodeAt (addText ns p x) i).kids = (nodeAt ns i).kids := by
  unfold addText; rw [nodeAt_modify]; split <;> rfl
theorem alike_no {ns : List Nd} {i : Int} (h : (nodeAt ns i).parent = -1) : freeN ns i = ns := by
  unfold freeN; simp [h]
theorem Bare.hang {ns : List Nd} (h : Bare ns) {i : Int} (hi : (nodeAt ns i).parent = -1) (ref : Int) : Bare (hangN ns 3 ref i) := by
  refine h.alike (.of (alike_hangN _ _ _ _)) fun j hj => .inl ?_
  unfold hangN
  simp only [alike_no hi]
  rw [kids_setParent, kids_setKids _ _ _ (by decide) _ (by omega)]
theorem Bare.append {ns : List Nd} (h : Bare ns) {i : Int} (hi : (nodeAt ns i).parent = -1) : Bare (appendN ns 3 i) := by
  unfold appendN
  split
  · exact h.hang hi _
  · exact h
theorem bare_app {ns : List Nd} (h : Bare ns) (n : Nd) (hn : isTemplate n = false) : Bare (addN ns n) ∧ (nodeAt (addN ns n) (ns.length : Int)).parent = -1 := by
  rw [addN_plain hn]
  have hl := h.len
  have old : ∀ i : Int, i < (ns.length : Int) → nodeAt (ns ++ [bareN n]) i = nodeAt ns i := fun i hi => by rw [nodeAt_append, if_pos hi]
  refine ⟨⟨by simp; omega, fun i hi => ?_, ?_, ?_, ?_, ?_⟩, ?_⟩
  · rw [nodeAt_append]
    split
    · exact h.bare i hi
    · rw [nodeAt_one]; split <;> rfl
  · rw [old 0 (by omega)]; exact h.n0
  · rw [old 1 (by omega)]; exact h.n1
  · rw [old 2 (by omega)]; exact h.n2
  · rw [old 3 (by omega)]; exact h.n3
  · rw [nodeAt_append, if_neg (by omega), nodeAt_one, if_pos (by omega)]; rfl
theorem Bare.text {ns : List Nd} (h : Bare ns) (x : Str) : Bare (textN ns 3 (-1) x) := by
  have key : ∀ k : Nat, Bare (if (decide (0 < k) && (nodeAt ns ((nodeAt ns 3).kids.getD (k - 1) 0)).kind == 4) = true then addText ns ((nodeAt ns 3).kids.getD (k - 1) 0) x else hangN (addN ns ⟨4, n_empty, x, 0, [], false, 0, 0, [], -1, -1⟩) 3 (-1) (ns.length : Int)) := by
    intro k
    split
    · exact h.alike (alk_addText _ _ _) fun j hj => .inl (kids_addText _ _ _ _)
    · have := bare_app h ⟨4, n_empty, x, 0, [], false, 0, 0, [], -1, -1⟩ rfl
      exact this.1.hang this.2 _
  unfold textN
  split
  · exact h
  · exact key _

theorem place_of {s : St} (hf : s.foster = false) (hb : Bare s.nodes) : s.place 3 = (3, -1) := by
  unfold St.place
  rw [hf]
  simp only [Bool.false_and, Bool.false_eq_true, if_false]
  have : St.htmlNd (s.node 3) [n_template] = false := by
    unfold St.htmlNd St.node; rw [hb.n3.1, hb.n3.2.1, hb.n3.2.2]; decide
  rw [this]; rfl
/-- The state between the law's tokens. -/
structure Sing (n : Nat) (s : St) : Prop where
  fine : Fine n s
  mode : s.mode = 6
  fmts : s.fmts = []
  stk : s.stk = [{ node := 1, name := n_html }, { node := 3, name := n_body }]
  bare : Bare s.nodes
namespace Sing
variable {n : Nat} {s : St}
theorem mono (h : Sing n s) {n' : Nat} (hn : n ≤ n') : Sing n' s := ⟨h.fine.mono hn, h.mode, h.fmts, h.stk, h.bare⟩
theorem reb (h : Sing n s) : Reb s := by
  unfold Reb St.lost; rw [h.fmts]; rfl
theorem rebuild (h : Sing n s) : s.rebuild = s := by
  unfold St.rebuild St.lost; rw [h.fmts]; rfl
theorem top (h : Sing n s) : s.top = 3 := by
  unfold St.top St.at_ St.el; rw [h.stk]; rfl
theorem node3 (h : Sing n s) : (s.node 3).name = n_body ∧ (s.node 3).space = 0 ∧ (s.node 3).kind = 3 := h.bare.n3
theorem place (h : Sing n s) : s.place 3 = (3, -1) := place_of h.fine.foster h.bare
theorem closeP (h : Sing n s) : s.closeP = s := by
  unfold St.closeP
  have : s.has 2 [n_p] = false := by
    unfold St.has St.el; rw [h.stk]; decide +kernel
  rw [this]; rfl
theorem only_eq (h : Sing n s) (t : Tok) (hn : t.name ≠ n_template) : s.only t = { s with nodes := appendN (addN s.nodes (St.tagNd t 0)) 3 (s.nodes.length : Int) } := by
  have hl : s.stk.length = 2 := by rw [h.stk]; rfl
  have hT : isTemplate (St.tagNd t 0) = false := by
    unfold isTemplate St.tagNd
    simp only [Bool.and_eq_false_iff, beq_eq_false_iff_ne]
    exact .inr hn
  have hb := bare_app h.bare (St.tagNd t 0) hT
  have hins : s.insI = (s.nodes.length : Int) := by unfold St.insI; rw [hl]; rfl
  have hadd : s.add (St.tagNd t 0) = { s with nodes := addN s.nodes (St.tagNd t 0) } := by unfold St.add; rfl
  have hput : (s.add (St.tagNd t 0)).put (s.nodes.length : Int) (s.add (St.tagNd t 0)).target = { s with nodes := appendN (addN s.nodes (St.tagNd t 0)) 3 (s.nodes.length : Int) } := by
    have ht : (s.add (St.tagNd t 0)).target = 3 := by
      unfold St.target
      have : (s.add (St.tagNd t 0)).top = 3 := by rw [hadd]; unfold St.top St.at_ St.el; simp only [h.stk]; rfl
      rw [this]; rfl
    rw [ht]
    unfold St.put
    rw [place_of (s := s.add (St.tagNd t 0)) (by rw [hadd]; exact h.fine.foster) (by rw [hadd]; exact hb.1), hadd]
    rfl
  have hk : (nodeAt (appendN (addN s.nodes (St.tagNd t 0)) 3 (s.nodes.length : Int)) (s.nodes.length : Int)).kind = 3 := by
    rw [((alike_appendN _ _ _).2 _).2.2.1, addN_plain hT, nodeAt_append, if_neg (by omega), nodeAt_one, if_pos (by omega)]; rfl
  unfold St.only
  rw [hins, if_neg (by omega)]
  unfold St.ins
  rw [hl, if_neg (by decide)]
  simp only [hput]
  unfold St.push St.pushE St.insert
  have hE : St.insertE { s with nodes := appendN (addN s.nodes (St.tagNd t 0)) 3 (s.nodes.length : Int) } (s.stk.length : Int) (s.nodes.length : Int) = 0 := by
    unfold St.insertE St.node
    simp only [hk, hl]
    decide
  simp only [hE]
  unfold St.fail St.pop
  simp [hl]
  exact List.take_of_length_le (by omega)
/-- One that has no end, inserted. -/
theorem only (h : Sing n s) (t : Tok) (hz : t.name.size < 1000000) (hn : t.name ≠ n_template) : Sing (n + 1) (s.only t) := by
  have hT : isTemplate (St.tagNd t 0) = false := by
    unfold isTemplate St.tagNd
    simp only [Bool.and_eq_false_iff, beq_eq_false_iff_ne]
    exact .inr hn
  have hb := bare_app h.bare (St.tagNd t 0) hT
  have hf := h.fine.only t hz hn
  rw [h.only_eq t hn] at hf ⊢
  exact ⟨hf, h.mode, h.fmts, h.stk, hb.1.append hb.2⟩
theorem chars (h : Sing n s) (x : Str) (hx : x.size ≤ 1048576) : Sing (n + 1) (s.rebuild.chars x) := by
  have hf := h.fine.chars x hx
  rw [h.rebuild]
  have e : s.chars x = { s with nodes := textN s.nodes 3 (-1) x } := by
    unfold St.chars
    have ht : s.target = 3 := by unfold St.target; rw [h.top]; rfl
    simp only [ht, h.place]
    rfl
  rw [e] at hf ⊢
  exact ⟨hf, h.mode, h.fmts, h.stk, h.bare.text x⟩
theorem other (h : Sing n s) (name : Str) (hn : name ≠ n_body) : s.other name = s := by
  unfold St.other
  have hl : s.stk.length = 2 := by rw [h.stk]; rfl
  rw [hl]
  unfold St.otherFrom
  have ha : s.at_ ((1 : Nat) : Int) = 3 := by unfold St.at_ St.el; rw [h.stk]; rfl
  simp only [ha, h.node3.1, h.node3.2.1]
  rw [if_neg (by simp; exact fun e => hn e.symm), if_pos (by decide +kernel)]
end Sing
/-- What of the law's names there may be in a node with kids. -/
theorem Bare.none {ns : List Nd} (h : Bare ns) {name : Str} (h0 : name ≠ n_empty) (h1 : name ≠ n_html) (h2 : name ≠ n_head) (h3 : name ≠ n_body) (i : Int) (hi : 0 ≤ i) (he : (nodeAt ns i).name = name) : (nodeAt ns i).kids = [] := by
  rcases (by omega : i = 0 ∨ i = 1 ∨ i = 2 ∨ i = 3 ∨ 4 ≤ i) with rfl | rfl | rfl | rfl | h4
  · exact absurd (he.symm.trans h.n0) h0
  · exact absurd (he.symm.trans h.n1.1) h1
  · exact absurd (he.symm.trans h.n2) h2
  · exact absurd (he.symm.trans h.n3.1) h3
  · exact h.bare i h4
end Go.Proofs.YtgaebaokcjhcdaaGreatDoor.Lz

/- BodiesSingle: what the law's tokens do. -/
set_option linter.unusedVariables false
set_option linter.unusedSimpArgs false
namespace Go.Proofs.YtgaebaokcjhcdaaGreatDoor
open Go.RowKit Lz
variable {w0 w w' : World} {F : Nat → Prop} {b a st l n : Nat} {s s' : St}

def g_img : Str := ⟨#[105, 109, 103]⟩
def g_input : Str := ⟨#[105, 110, 112, 117, 116]⟩
def g_wbr : Str := ⟨#[119, 98, 114]⟩
def g_embed : Str := ⟨#[101, 109, 98, 101, 100]⟩
def g_area : Str := ⟨#[97, 114, 101, 97]⟩
def g_hr : Str := ⟨#[104, 114]⟩
def g_param : Str := ⟨#[112, 97, 114, 97, 109]⟩
def g_source : Str := ⟨#[115, 111, 117, 114, 99, 101]⟩
def g_track : Str := ⟨#[116, 114, 97, 99, 107]⟩
def g_t : Str := ⟨#[116]⟩
/-- The law's names. -/
def singles : List Str := [n_br, g_img, g_input, g_wbr, g_embed, g_area, g_hr, g_param, g_source, g_track]
theorem sd_singleN (h : Sing n s) (hn : n + 2 ≤ 1048576) (name : Str) (ht : TagOK (tStart name)) (hit : ∀ p0 p1, hitOf (startRows p0 p1) (fun _ => true) name = some (.func (.func 83) #[] #[])) :
    StepDoes b a st l s (tStart name) (s.only (tStart name)) := by
  have e : s.only (tStart name) = St.single s (tStart name) := by unfold St.single; rw [h.rebuild]
  rw [e]
  exact step_body _ h.mode fun w0 F w k => body_start k (tStart name) rfl ht.size 83 (run_of Tryz.func83 (by kernel_rfl) (by kernel_rfl)) hit fun w0 F w k => single_c k h.fine hn h.reb _ ht
theorem sd_rulerN (h : Sing n s) (hn : n + 2 ≤ 1048576) (name : Str) (ht : TagOK (tStart name)) (hit : ∀ p0 p1, hitOf (startRows p0 p1) (fun _ => true) name = some (.func (.func 85) #[] #[])) :
    StepDoes b a st l s (tStart name) (s.only (tStart name)) := by
  have e : s.only (tStart name) = St.ruler s (tStart name) := by unfold St.ruler; rw [h.closeP]
  rw [e]
  exact step_body _ h.mode fun w0 F w k => body_start k (tStart name) rfl ht.size 85 (run_of Tryz.func85 (by kernel_rfl) (by kernel_rfl)) hit fun w0 F w k => ruler_c k h.fine hn _ ht
theorem sd_paramN (h : Sing n s) (hn : n + 2 ≤ 1048576) (name : Str) (ht : TagOK (tStart name)) (hit : ∀ p0 p1, hitOf (startRows p0 p1) (fun _ => true) name = some (.func (.func 84) #[] #[])) :
    StepDoes b a st l s (tStart name) (s.only (tStart name)) :=
  step_body _ h.mode fun w0 F w k => body_start k (tStart name) rfl ht.size 84 (run_of Tryz.func84 (by kernel_rfl) (by kernel_rfl)) hit fun w0 F w k => parameter_c k h.fine hn _ ht
theorem tagG {name : Str} (h : name ∈ singles) : TagOK (tStart name) := by
  have : ∀ x ∈ singles, decide (x.size < 1000000) && !(decide (x = n_template)) = true := by decide +kernel
  have := this name h
  simp only [Bool.and_eq_true, decide_eq_true_eq, Bool.not_eq_true', decide_eq_false_iff_not] at this
  exact tagS this.1 this.2
theorem sd_startG (h : Sing n s) (hn : n + 2 ≤ 1048576) (name : Str) (hm : name ∈ singles) : StepDoes b a st l s (tStart name) (s.only (tStart name)) := by
  have ht := tagG hm
  unfold singles at hm
  simp only [List.mem_cons, List.not_mem_nil, or_false] at hm
  rcases hm with rfl | rfl | rfl | rfl | rfl | rfl | rfl | rfl | rfl | rfl
  · exact sd_singleN h hn _ ht (fun p0 p1 => by kernel_rfl)
  · exact sd_singleN h hn _ ht (fun p0 p1 => by kernel_rfl)
  · exact sd_singleN h hn _ ht (fun p0 p1 => by kernel_rfl)
  · exact sd_singleN h hn _ ht (fun p0 p1 => by kernel_rfl)
  · exact sd_singleN h hn _ ht (fun p0 p1 => by kernel_rfl)
  · exact sd_singleN h hn _ ht (fun p0 p1 => by kernel_rfl)
  · exact sd_rulerN h hn _ ht (fun p0 p1 => by kernel_rfl)
  · exact sd_paramN h hn _ ht (fun p0 p1 => by kernel_rfl)
  · exact sd_paramN h hn _ ht (fun p0 p1 => by kernel_rfl)
  · exact sd_paramN h hn _ ht (fun p0 p1 => by kernel_rfl)
/-- The state behind an end tag of such a name. -/
def endG (s : St) (name : Str) : St := if name = n_br then s.only (St.impTok n_br) else s
theorem sing_endG (h : Sing n s) (name : Str) : Sing (n + 1) (endG s name) := by
  unfold endG
  split
  · exact h.only _ (by decide) (by decide)
  · exact ⟨h.fine.mono (by omega), h.mode, h.fmts, h.stk, h.bare⟩
theorem sd_otherN (h : Sing n s) (name : Str) (hz : name.size < 1000000) (hh : (name == n_html) = false) (hb : name ≠ n_body) (hit : ∀ p0 p1, hitOf (endRows p0 p1) (fun _ => true) name = none) : StepDoes b a st l s (tEnd name) s := by
  have := step_body (b := b) (a := a) (st := st) (l := l) (tEnd name) h.mode fun w0 F w k => body_end_none k h.fine (tEnd name) rfl hz hh hit
  rw [show s.other (tEnd name).name = s from h.other name hb] at this
  exact this
theorem sd_endG (h : Sing n s) (hn : n + 2 ≤ 1048576) (name : Str) (hm : name ∈ singles) : StepDoes b a st l s (tEnd name) (endG s name) := by
  have hz := (tagG hm).size
  unfold singles at hm
  simp only [List.mem_cons, List.not_mem_nil, or_false] at hm
  unfold endG
  rcases hm with rfl | rfl | rfl | rfl | rfl | rfl | rfl | rfl | rfl | rfl
  · rw [if_pos rfl]
    have := sd_endBr (b := b) (a := a) (st := st) (l := l) h.mode h.fine hn h.reb
    rw [show St.endBr s = s.only (St.impTok n_br) by unfold St.endBr St.single; rw [h.rebuild]] at this
    exact this
  all_goals (rw [if_neg (by decide)]; exact sd_otherN h _ hz (by decide) (by decide) (fun p0 p1 => by kernel_rfl))
/-- One round of the law. -/
def roundG (s : St) (nm name : Str) : St := endG ((s.only (tStart nm)).rebuild.chars g_t) name
theorem sing_round (h : Sing n s) (nm name : Str) (h1 : nm ∈ singles) (h2 : name ∈ singles) : Sing (n + 3) (roundG s nm name) :=
  sing_endG ((h.only _ (tagG h1).size (tagG h1).name).chars g_t (by decide)) name
theorem do_round (h : Sing n s) (hn : n + 6 ≤ 1048576) (nm name : Str) (h1 : nm ∈ singles) (h2 : name ∈ singles) : DoAll b a st l s [tStart nm, tChars g_t, tEnd name] (roundG s nm name) := by
  have k1 := h.only (tStart nm) (tagG h1).size (tagG h1).name
  have k2 := k1.chars g_t (by decide)
  exact .cons _ _ _ _ _ (sd_startG h (by omega) nm h1) (.cons _ _ _ _ _ (sd_chars k1.mode k1.fine (by omega) k1.reb g_t (by decide)) (.cons _ _ _ _ _ (sd_endG k2 (by omega) name h2) (.nil _)))
theorem opened_len : (openedSt false).nodes.length = 4 := by kernel_rfl
theorem sing_opened : Sing 4 (openedSt false) := by
  refine ⟨fine_opened, by kernel_rfl, by kernel_rfl, by kernel_rfl, ⟨by rw [opened_len]; exact Nat.le_refl 4, fun i hi => ?_, by kernel_rfl, ⟨by kernel_rfl, by kernel_rfl⟩, by kernel_rfl, ⟨by kernel_rfl, by kernel_rfl, by kernel_rfl⟩⟩⟩
  unfold nodeAt
  rw [if_pos (by omega), List.getD_eq_getElem?_getD, List.getElem?_eq_none (by rw [opened_len]; omega)]
  rfl
end Go.Proofs.YtgaebaokcjhcdaaGreatDoor

/- The law BodiesSingle, walked. -/
set_option linter.unusedVariables false
set_option linter.unusedSimpArgs false
namespace Go.Proofs.YtgaebaokcjhcdaaGreatDoor
open Go.RowKit Lz
variable {n : Nat} {s : St}

/-- A slice of bytes as it comes in. -/
def U8Row (w : World) (A : Option Addr) (zs : List Int) : Prop := ∀ i z, zs[i]? = some z → 0 ≤ z ∧ z < 256 ∧ ∃ g o, A = some ⟨g, o, none⟩ ∧ g < w.heap.size ∧ w.cell? ⟨g, o + i, none⟩ = some (.int .u8 z)
theorem single_at (z : Int) (h0 : 0 ≤ z) : ∃ X, X ∈ singles ∧ ([.string ⟨#[98, 114]⟩, .string ⟨#[105, 109, 103]⟩, .string ⟨#[105, 110, 112, 117, 116]⟩, .string ⟨#[119, 98, 114]⟩, .string ⟨#[101, 109, 98, 101, 100]⟩, .string ⟨#[97, 114, 101, 97]⟩, .string ⟨#[104, 114]⟩, .string ⟨#[112, 97, 114, 97, 109]⟩, .string ⟨#[115, 111, 117, 114, 99, 101]⟩, .string ⟨#[116, 114, 97, 99, 107]⟩] : List Value)[(z % 10).toNat]? = some (.string X) := by
  have h : (z % 10).toNat < singles.length := by show _ < 10; omega
  refine ⟨singles[(z % 10).toNat], List.getElem_mem h, ?_⟩
  show (singles.map Value.string)[(z % 10).toNat]? = _
  rw [List.getElem?_map, List.getElem?_eq_getElem h]; rfl
theorem sing_isB (h : Sing n s) : s.is [n_body] = true := by
  unfold St.is
  rw [h.top]
  unfold St.htmlNd
  rw [h.node3.1, h.node3.2.1, h.node3.2.2]; decide
theorem sing_isN (h : Sing n s) (X : Str) (hX : X ∈ singles) : s.is [X] = false := by
  unfold St.is
  rw [h.top]
  unfold St.htmlNd
  rw [h.node3.1, h.node3.2.1, h.node3.2.2]
  have : ∀ x ∈ singles, ([x].contains n_body) = false := by decide +kernel
  rw [this X hX]; rfl
theorem sing_none {ns : List Nd} (h : Bare ns) (X : Str) (hX : X ∈ singles) (i : Int) (hi : 0 ≤ i) : ((nodeAt ns i).name.toList == X.toList) = false ∨ ((nodeAt ns i).name.toList == X.toList) = true ∧ (nodeAt ns i).kids.length = 0 := by
  have h4 : ∀ x ∈ singles, (!decide (x = n_empty) && !decide (x = n_html) && !decide (x = n_head) && !decide (x = n_body)) = true := by decide +kernel
  have h4 := h4 X hX
  simp only [Bool.and_eq_true, Bool.not_eq_true', decide_eq_false_iff_not] at h4
  cases e : ((nodeAt ns i).name.toList == X.toList) with
  | false => exact .inl rfl
  | true =>
    rw [beqS] at e
    exact .inr ⟨rfl, by rw [h.none h4.1.1.1 h4.1.1.2 h4.1.2 h4.2 i hi (eq_of_beq e)]; rfl⟩
set_option maxRecDepth 100000 in
set_option maxHeartbeats 8000000 in
theorem bodiesSingle_c (w : World) (hB : Base w) (which : Int) (hw0 : 0 ≤ which) (hw1 : which < 256) (A : Option Addr) (m c : Nat) (zs : List Int) (hm : zs.length = m) (hz : U8Row w A zs) :
    Calls Tryz.prog 6 #[.int .u8 which, .slice A m c] w fun e w' => e = .returned (.bool true) ∧ Bel w w' := by
  have HB := Lib.hid hB
  have HZ := Lib.hid hz
  clear hB hz
  go_enter Tryz.func6, Tryz.ntmps6
  by_cases h20 : 20 < m
  · have e1 : decide ((m : Int) > 20) = true := by simpa using (by omega : (20 : Int) < m)
    have HST := Lib.hid (stands_c w HB.out)
    go_wp2_with (go_at_call 10; refine HST.out.mono ?_; rintro e w1 ⟨rfl, hb1⟩)
    go_ret
    exact ⟨rfl, hb1⟩
  · have e1 : decide ((m : Int) > 20) = false := by simpa using (by omega : (m : Int) ≤ 20)
    obtain ⟨X, hXm, hX⟩ := single_at which hw0
    have HXm := Lib.hid hXm
    clear hXm
    go_wp2_with fail
    refine (opened_c _ (Base.bel HB.out (bel_alloc _ _)).glob (Base.bel HB.out (bel_alloc _ _)).laid false).mono ?_
    rintro e w1 ⟨b, a, st, l, sp, rfl, ns, op, hb1, Fb, Fs, hBR, hSR, h1, h2, h3⟩
    have hstart : BS w1 Fb w1 b a st l (openedSt false) := hBR.start (fun k hk => (h1 k hk).2)
    have hFb : ∀ k, Fb k → w.heap.size + 1 ≤ k := fun k hk => by have := (h1 k hk).1; simpa using this
    have hnb := (hb1.block w.heap.size (by simp)).trans (heap_alloc_new w _)
    have hB1 : Bel w w1 := bel_tr (bel_alloc _ _) hb1
    have hsz1 : w.heap.size + 1 ≤ w1.heap.size := by have := hb1.size; simpa using this
    have HNB := Lib.hid hnb; have HB1 := Lib.hid hB1; have HFB := Lib.hid hFb; have HSZ := Lib.hid hsz1
    clear hnb hB1 hFb h1 h2 h3 hSR hBR hb1 hsz1
    go_wp2_with fail
    refine (start_c _ _).mono ?_
    rintro e w2 ⟨rfl, hb2⟩
    have k2 := hstart.bel hb2
    clear hb2 hstart
    go_wp2_with fail
    have k3 := k2.enter (bel_alloc w2 (.cells ([tStart X].flatMap tokCl).toArray 24 (0, 0)))
    have n3 : ¬ grow Fb w1 w2 w2.heap.size := fun hk => by have := k2.blt _ hk; omega
    refine (does_c k3 w2.heap.size 1 [tStart X] (tokRow_new w2 [tStart X] (by simp)) (by simp) n3 (.cons _ _ _ _ _ (sd_startG sing_opened (by decide) X HXm.out) (.nil _))).mono ?_
    rintro e w4 ⟨rfl, h4⟩
    have k4 := k2.sub (bel_alloc w2 _) h4
    have hS := sing_opened.only (tStart X) (tagG HXm.out).size (tagG HXm.out).name
    clear h4 k3 n3 k2
    generalize (openedSt false).only (tStart X) = s1 at *
    go_wp2_with fail
    have i1 := (k4.bel (bel_alloc w4 (.cells (([X] : List Str).map Value.string).toArray 9 (0, 0)))).is_ _ [X] (strRow_lit [X] (heap_alloc_new w4 _) (by simp))
    rw [sing_isN hS X HXm.out] at i1
    refine i1.mono ?_
    rintro e w5 ⟨rfl, k5⟩
    clear i1 k4
    go_wp2_with fail
    have i2 := (k5.bel (bel_alloc w5 (.cells (([n_body] : List Str).map Value.string).toArray 9 (0, 0)))).is_ _ [n_body] (strRow_lit [n_body] (heap_alloc_new w5 _) (by decide))
    rw [sing_isB hS] at i2
    refine i2.mono ?_
    rintro e w6 ⟨rfl, k6⟩
    clear i2 k5
    go_wp2_with fail
    go_loopw [9] (fun y wr => ∃ (j : Nat) (s2 : St), j ≤ m ∧ y = .int .i64 j ∧ Sing (5 + 3 * j) s2 ∧ BS w1 Fb wr b a st l s2) (fun y _ => m - (intOf y).toNat)
    case atStart => exact ⟨0, s1, Nat.zero_le _, rfl, hS, k6⟩
    case round =>
      obtain ⟨j, s2, hj, rfl, hS2, kr⟩ := hrel
      clear hS k6
      by_cases hlt : j < m
      · have hzj : zs[j]? = some (zs[j]'(by omega)) := List.getElem?_eq_getElem (by omega)
        obtain ⟨z0, z1, g, o, rfl, hg, hc⟩ := HZ.out j _ hzj
        generalize zs[j]'(by omega) = z at *
        obtain ⟨Y, hYm, hY⟩ := single_at z z0
        have HYm := Lib.hid hYm
        have nF1 : ¬ Fb g := fun hk => by have := HFB.out g hk; omega
        have nF2 : ¬ Fb w.heap.size := fun hk => by have := HFB.out _ hk; omega
        have qa := (World.cell?_of_block (a := ⟨g, o + j, none⟩) ((kr.kept (Nat.lt_of_lt_of_le hg HB1.out.size) nF1).trans (HB1.out.block g hg))).trans hc
        have hnb := (kr.kept (by have := HSZ.out; omega) nF2).trans HNB.out
        have qn := (blk_cell hnb (z % 10).toNat).trans (Array.getElem?_toList.symm.trans hY)
        clear hzj hYm nF1 nF2 hnb hY
        go_wp2_with fail
        refine (start_c _ _).mono ?_
        rintro e v1 ⟨rfl, c1⟩
        replace kr := kr.bel c1
        clear c1
        go_wp2_with fail
        refine (chars_c _ _).mono ?_
        rintro e v2 ⟨rfl, c1⟩
        replace kr := kr.bel c1
        clear c1
        go_wp2_with fail
        refine (end_c _ _).mono ?_
        rintro e v3 ⟨rfl, c1⟩
        replace kr := kr.bel c1
        clear c1
        go_wp2_with fail
        have kk := kr.enter (bel_alloc v3 (.cells ([tStart Y, tChars g_t, tEnd X].flatMap tokCl).toArray 24 (0, 0)))
        have n3 : ¬ grow Fb w1 v3 v3.heap.size := fun hk => by have := kr.blt _ hk; omega
        refine (does_c kk v3.heap.size 3 [tStart Y, tChars g_t, tEnd X] (tokRow_new v3 [tStart Y, tChars g_t, tEnd X] (by simp)) (by simp) n3 (do_round hS2 (by omega) Y X HYm.out HXm.out)).mono ?_
        rintro e v4 ⟨rfl, h4⟩
        have k4 := kr.sub (bel_alloc v3 _) h4
        clear h4 kk n3 kr
        go_wp2_with fail
        go_roundw
        case rel => exact ⟨j + 1, roundG s2 Y X, by omega, by go_num, (sing_round hS2 Y X HYm.out HXm.out).mono (by omega), k4⟩
        case measure => simp [intOf]; omega
      · have hjm : j = m := by omega
        subst hjm
        go_wp2_with fail
        refine (kr.arena_).mono ?_
        rintro e w' ⟨rfl, rfl⟩
        go_wp2_with fail
        refine (kr.tree_).mono ?_
        rintro e w3 ⟨v, rfl, hT, k3⟩
        obtain ⟨g, cap, cur, va, vk, rfl, hG, hb, hcap, hc, hk, hva⟩ := hT
        have hkl := k3.kidsl.1
        have HC := Lib.hid (fun i cc (hi : i < s2.nodes.length) (hcc : cc < 11) => (blk_cell hb (i * 11 + cc)).trans (hc i cc hi hcc))
        have HK := Lib.hid (fun i (hi : i < s2.nodes.length) => (hk i hi).shape)
        have HS := Lib.hid hS2
        clear hb hc hk hva kr hS2
        go_wp2_with fail
        obtain ⟨wo, hwo⟩ : ∃ wo : World, wo = w3 := ⟨_, rfl⟩
        go_loopw [11] (fun y wr => ∃ i : Nat, i ≤ s2.nodes.length ∧ y = .int .i64 i ∧ wr = w3) (fun y _ => s2.nodes.length - (intOf y).toNat)
        case atStart => exact ⟨0, Nat.zero_le _, rfl, rfl⟩
        case round =>
          obtain ⟨i, hi, rfl, rfl⟩ := hrel
          by_cases hil : i < s2.nodes.length
          · have hnd : nodeAt s2.nodes (i : Int) = s2.nodes.getD i nd0 := nodeAt_nat _ _ (by omega)
            have q1 := HC.out i 1 hil (by decide)
            have q8 := HC.out i 8 hil (by decide)
            obtain ⟨A2, z2, hv2⟩ := HK.out i hil
            rw [hv2] at q8
            have hno := sing_none HS.out.bare X HXm.out (i : Int) (by omega)
            rw [hnd] at hno
            generalize s2.nodes.getD i nd0 = nn at *
            simp only [ndCells, List.getElem?_cons_succ, List.getElem?_cons_zero] at q1 q8
            have hq : wr.cell? ⟨g, i * 11 + 8, none⟩ = some (.slice A2 nn.kids.length z2) := q8
            rcases hno with e1 | ⟨e1, e2⟩
            · go_wp2_with fail
              go_roundw
              case rel => exact ⟨i + 1, by omega, by go_num, trivial⟩
              case measure => simp [intOf]; omega
            · rw [e2] at q8 hq
              go_wp2_with fail
              go_roundw
              case rel => exact ⟨i + 1, by omega, by go_num, trivial⟩
              case measure => simp [intOf]; omega
          · have hL := (k3.stack_)
            have hN := k3.len_
            have hl2 : s2.stk.length = 2 := by rw [HS.out.stk]; rfl
            rw [hl2] at hN
            have hbw : Bel w wr := bel_mut HB1.out k3.mtd (fun k hk => by have := HFB.out k hk; omega)
            have HST := Lib.hid (stands_c wr (Base.bel HB.out hbw))
            have HN := Lib.hid hN
            clear hN
            go_wp2_with (first | (go_at_call 19; refine hL.mono ?_; rintro e w' ⟨rfl, rfl⟩) | (go_at_call 20; refine HN.out.mono ?_; rintro e w' ⟨rfl, rfl⟩) | (go_at_call 10; refine HST.out.mono ?_; rintro e w7 ⟨rfl, hb7⟩))
            go_ret
            exact ⟨rfl, bel_tr hbw hb7⟩
end Go.Proofs.YtgaebaokcjhcdaaGreatDoor

/- The row of BodiesSingle. -/
set_option linter.unusedVariables false
set_option linter.unusedSimpArgs false
namespace Go.Proofs.YtgaebaokcjhcdaaGreatDoor
open Go.ChangeShapes Go.WideShapes Go.ChangeAt Go.RowKit Go.Deep Lz

theorem wf_u8 {z : Int} (h : (Lit.int .u8 z).wf = true) : 0 ≤ z ∧ z < 256 := by
  have e0 : IntKind.u8.min = 0 := by kernel_rfl
  have e1 : IntKind.u8.max = 255 := by kernel_rfl
  simp only [Lit.wf, Bool.and_eq_true, decide_eq_true_eq, e0, e1] at h
  omega
set_option maxRecDepth 100000 in
/-- A slice of bytes that came in, nil or not, as the walk wants it. -/
theorem open_bytes {H : Type} {enc : TypeId × Value → H} {W : World} {b0 : Nat} {held : Bool} {v : Value} {d : DataW H} {p : List MemPlace}
    (hv : Value.okWide Tryz.prog W .any b0 39 v) (h : DataW.Trod enc Tryz.prog W 0 (fun _ => true) held 39 v d p) :
    ∃ (A : Option Addr) (m c : Nat) (zs : List Int), v = .slice A m c ∧ zs.length = m ∧ U8Row W A zs := by
  obtain ⟨A, m, c, rfl⟩ := okWide_slice Tryz.underlying39 hv
  obtain ⟨fuel, hf⟩ := h
  have c5 : Tryz.prog.cellsOf 5 = 1 := by kernel_rfl
  rcases open_ints Tryz.underlying39 Tryz.underlying5 c5 hf with ⟨hcs, _⟩ | ⟨a, len, cap, zs, hcs, _, hl, _, hz, _, hcell, hwf⟩
  · simp [Value.cells] at hcs
    obtain ⟨rfl, rfl, rfl⟩ := hcs
    exact ⟨none, 0, 0, [], rfl, rfl, fun i z h => by simp at h⟩
  · simp [Value.cells] at hcs
    obtain ⟨rfl, rfl, rfl⟩ := hcs
    simp only [if_true] at hz
    refine ⟨some a, m, c, zs.take m, rfl, by simp; omega, fun i z hi => ?_⟩
    have him : i < m := by
      have := (List.getElem?_eq_some_iff.1 hi).1
      simp at this; omega
    rw [List.getElem?_take_of_lt him] at hi
    have hzm := List.mem_of_getElem? hi
    obtain ⟨z0, z1⟩ := wf_u8 (hwf z hzm)
    have hc := hcell i (by omega)
    rw [List.getD_eq_getElem?_getD, hi] at hc
    simp only [Option.getD_some] at hc
    obtain ⟨g, o, sp⟩ := a
    have hsp : sp = none := by
      have h0 := World.cell?_spot (hcell 0 (by omega))
      simpa [Addr.add] using h0
    subst hsp
    have hc' : W.cell? ⟨g, o + i, none⟩ = some (.int .u8 z) := by
      unfold Addr.add at hc
      by_cases h0 : i = 0
      · subst h0; simpa using hc
      · simpa [h0] using hc
    refine ⟨z0, z1, g, o, rfl, ?_, hc'⟩
    rcases Nat.lt_or_ge g W.heap.size with h' | h'
    · exact h'
    · simp [World.cell?, Array.getElem?_eq_none h'] at hc'

set_option maxRecDepth 100000 in
theorem liftedS (os : Os) (started : os.Started) (H : Type) (enc : TypeId × Value → H) :
    ReturnsInHanded {} Tryz.checked os 6 .any (fun w args => (Rows.bodiesSingleSpec.pre enc Tryz.prog Tryz.f6 [] false w args ∧ laidMetH Tryz.prog rowLaid w) ∧ sizedMet enc Tryz.prog Tryz.f6 (OpenSpec.ofChange Rows.bodiesSingleSpec) false w args)
      (Rows.bodiesSingleSpec.post enc Tryz.prog Tryz.f6 false true false false) := by
  have wit := ChangeSpec.witness_shaped (enc := enc) (C := Tryz.checked) (os := os) (f := 6) (fn := Tryz.f6) (s := Rows.bodiesSingleSpec) (conds := []) (apart := false) (X := fun w _ => laidMetH Tryz.prog rowLaid w) false (World.doorLaid Tryz.prog 103 os)
    #[.int .u8 0, .slice none 0 0] 8 rfl (World.shaped_of_RefB (by kernel_rfl) (by kernel_rfl)) (by kernel_rfl) (by kernel_rfl) (by kernel_rfl) (door_met os _)
  refine returnsInHanded_of_row (C := Tryz.checked) (s := OpenSpec.ofChange Rows.bodiesSingleSpec) (F := fun _ _ _ => 0) (conds := []) (laid := rowLaid) rowOwn started (by kernel_rfl) Tryz.func6 wit ?_
  intro W base args ds gs before hval0 hW _ _ _ hL hsh _
  have hval : ∀ (j : Nat) t v, Tryz.f6.params[j]? = some t → args[j]? = some v → Value.okWide Tryz.prog W .any base t v := hval0
  have hW' := hW
  obtain ⟨p, q, hA0, hV, rfl, hfz, hnd⟩ := hW
  have hA : DataW.TrodAll enc Tryz.prog W 0 (fun _ => true) true Tryz.f6.params.toList args.toList ds p := hA0
  rw [Tryz.params6] at hA hval
  obtain ⟨v0, v1, d0, d1, p0, p1, rfl, rfl, rfl, h0, h1⟩ := trodAll_two hA
  obtain ⟨rfl, rfl⟩ := trodVars_none hV
  have h0' := h0
  obtain ⟨which, rfl, rfl, rfl, hwf⟩ := open_int Tryz.underlying5 (hval 0 5 v0 rfl rfl) h0
  obtain ⟨A, m, c, zs, rfl, hm, hz⟩ := open_bytes (hval 1 39 v1 rfl rfl) h1
  simp only [List.append_nil, List.nil_append] at hW'
  have hB : Base W := base_of_laid hL hsh
  obtain ⟨z0, z1⟩ := wf_u8 hwf
  have hlt : ∀ y ∈ p1, y.block < W.heap.size := fun y hy => hW'.lt y hy
  refine (bodiesSingle_c W hB which z0 z1 A m c zs hm hz).mono fun e W' ⟨he, hb⟩ => ?_
  subst he
  refine ⟨_, rfl, post_of_below (pa := p1) (pv := []) hW' (fun _ _ _ => trodAll_mk1 (shut_bool Tryz.underlying4 _)) (fun sp hsp => ?_) (fun _ _ => rfl) (by simp) hb (ok_one (by kernel_rfl) rfl (okWide_bool_mk Tryz.underlying4 _))⟩
  exact trodAll_mk2 (shut_int Tryz.underlying5 hwf) (WideElems.Trod_stays rowLaidOut (by kernel_rfl) (of_decide_eq_true (by kernel_rfl)) h1 (fun y hy => hb.same (hlt y hy)) (fun y hy => hsp y hy))

theorem bodiesSingle_holds : Rows.BodiesSingleSaid :=
  OpenClaim.holds_of_wide 6 Tryz.f6 rfl rfl rfl rfl rfl rfl rfl ⟨rfl, rfl, rfl, rfl, rfl⟩ rfl rfl rfl rfl rfl (by kernel_rfl) Tryz.func6 (by kernel_rfl)
    (of_decide_eq_true (by kernel_rfl)) (by unfold Func.isWrapper; first | (rw [if_pos (by decide +kernel)]; kernel_rfl) | (rw [if_neg (by decide +kernel)]; exact ⟨rfl, rfl⟩))
    (fun os started H enc _ => liftedS os started H enc)
end Go.Proofs.YtgaebaokcjhcdaaGreatDoor
