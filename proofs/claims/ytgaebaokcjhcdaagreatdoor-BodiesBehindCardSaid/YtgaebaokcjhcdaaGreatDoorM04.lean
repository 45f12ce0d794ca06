/- The arena: Move. -/
import Derived.Test.YtgaebaokcjhcdaaGreatDoorM03
import Derived.BigQuiet

set_option linter.unusedVariables false
set_option linter.unusedSimpArgs false
namespace Go.Proofs.YtgaebaokcjhcdaaGreatDoor
open Go.RowKit Lz

theorem IntRow.at_ {w : World} {F : Nat → Prop} {A : Option Addr} {n cap : Nat} {xs : List Int} (h : IntRow w F (.slice A n cap) xs) (hn : 0 < xs.length) :
    ∃ b, A = some ⟨b, 0, none⟩ ∧ n = xs.length ∧ ∀ i, i < xs.length → w.cell? ⟨b, i, none⟩ = some (.int .i64 (xs.getD i 0)) := by
  rcases h with ⟨_, rfl⟩ | ⟨g, c, cur, e, hF, hb, r1, r2, r3, r4⟩
  · simp at hn
  · injection e with e1 e2 e3
    exact ⟨g, e1, e2, fun i hi => by rw [blk_cell hb]; exact r4 i hi⟩
theorem ArenaRep.mono {w : World} {F G : Nat → Prop} {a : Nat} {ns : List Nd} (h : ArenaRep w F a ns) (hG : ∀ k, F k → G k) (hlt : ∀ k, G k → k < w.heap.size) : ArenaRep w G a ns := h.keep (fun _ _ => rfl) hG hlt
theorem grow_bel {F : Nat → Prop} {w w1 w2 : World} (h : w.heap.size ≤ w1.heap.size) : ∀ k, grow F w1 w2 k → grow F w w2 k := fun k hk => hk.elim .inl (fun h2 => .inr ⟨by omega, h2.2⟩)
theorem grow_lt {F : Nat → Prop} {w w2 : World} (h : ∀ k, F k → k < w.heap.size) (hs : w.heap.size ≤ w2.heap.size) : ∀ k, grow F w w2 k → k < w2.heap.size := fun k hk => hk.elim (fun h2 => Nat.lt_of_lt_of_le (h k h2) hs) (fun h2 => h2.2)

def hangAll (ns : List Nd) (b : Int) (l : List Int) : List Nd := l.foldl (fun m i => hangN m b (-1) i) ns
theorem hangAll_take (ns : List Nd) (b : Int) (l : List Int) (k : Nat) (hk : k < l.length) : hangAll ns b (l.take (k + 1)) = hangN (hangAll ns b (l.take k)) b (-1) (l.getD k 0) := by
  unfold hangAll
  rw [List.take_succ_eq_append_getElem hk, List.foldl_append]
  simp [List.getD_eq_getElem?_getD, hk]

set_option maxHeartbeats 2000000 in
set_option maxRecDepth 100000 in
theorem aMove_c (w : World) (F : Nat → Prop) (a : Nat) (ns : List Nd) (x y : Int) (h : ArenaRep w F a ns) :
    Calls Tryz.prog 229 #[.pointer (some ⟨a, 0, none⟩), .int .i64 x, .int .i64 y] w fun e w' => e = .returned (.int .i64 (moveE ns x y)) ∧ Mut F w w' ∧ ArenaRep w' (grow F w w') a (moveN ns x y) := by
  cases hx : holdsN ns x
  · have hfin : moveE ns x y = 2 ∧ moveN ns x y = ns := by simp [moveN, moveE, hx]
    rw [hfin.1, hfin.2]
    have HP := Lib.hid hx; clear hx hfin
    go_enter Tryz.func229, Tryz.ntmps229
    go_wp2_with (first | (go_at_call 121; refine (aNone_c h).mono ?_; rintro e w' ⟨rfl, rfl⟩) | (go_at_call 122; refine (aHolds_c h x).mono ?_; rintro e w' ⟨rfl, rfl⟩; rw [HP.out]))
    go_ret
    exact ⟨rfl, Mut.refl _ _, h.refl⟩
  obtain ⟨x0, x1⟩ := holdsN_has hx
  cases hy : holdsN ns y
  · have hfin : moveE ns x y = 2 ∧ moveN ns x y = ns := by simp [moveN, moveE, hy]
    rw [hfin.1, hfin.2]
    have HP := Lib.hid hx; have HI := Lib.hid hy; clear hx hy hfin
    go_enter Tryz.func229, Tryz.ntmps229
    go_wp2_with (first | (go_at_call 121; refine (aNone_c h).mono ?_; rintro e w' ⟨rfl, rfl⟩) | (go_at_call 122; refine (aHolds_c h _).mono ?_; rintro e w' ⟨rfl, rfl⟩; first | rw [HP.out] | rw [HI.out]))
    go_ret
    exact ⟨rfl, Mut.refl _ _, h.refl⟩
  obtain ⟨y0, y1⟩ := holdsN_has hy
  cases hab : aboveN ns x y
  · have hfin : moveE ns x y = 0 ∧ moveN ns x y = hangAll ns y (nodeAt ns x).kids := by simp [moveN, moveE, hx, hy, hab, hangAll]
    rw [hfin.1, hfin.2]
    have HP := Lib.hid hx; have HI := Lib.hid hy
    have h' := h
    obtain ⟨g, cap, cur, va, vk, hv⟩ := h'
    have hs := hv.small
    have hh := hv.head
    have hkp := hv.kidsc x x0 x1
    have hrow := hv.kids x.toNat (by omega)
    have hkl := Nat.le_trans (kids_le hv.wf x.toNat (by omega)) hs
    have hok := MoveOk.start hv.wf x y x0 x1 y0 y1 hab
    rw [← nodeAt_nat _ _ x0] at hrow hkl
    have hFlt := h.lt
    have HA := Lib.hid hab; have HO := Lib.hid hok; clear hx hy hfin hab hok hv
    generalize (nodeAt ns x).kids = ks at *
    generalize vk x.toNat = vK at *
    go_enter Tryz.func229, Tryz.ntmps229
    go_wp2_with (first | (go_at_call 121; refine (aNone_c h).mono ?_; rintro e w' ⟨rfl, rfl⟩) | (go_at_call 122; refine (aHolds_c h _).mono ?_; rintro e w' ⟨rfl, rfl⟩; first | rw [HP.out] | rw [HI.out]) | (go_at_call 129; refine (aAbove_c h x y y1).mono ?_; rintro e w' ⟨rfl, rfl⟩; rw [HA.out]) | (go_at_call 62; refine (cloneInt_c _ F _ ks hrow hkl).mono ?_; rintro e w1 ⟨v1, rfl, hK1, hb1⟩; obtain ⟨A1, p1, rfl⟩ := hK1.shape))
    have hR := h.bel hb1
    have hFlt1 := hR.lt
    have hsz1 := hb1.size
    clear hh hkp hrow
    go_loopw [39] (fun i wr => ∃ k : Nat, k ≤ ks.length ∧ i = .int .i64 k ∧ Mut F w1 wr ∧ ArenaRep wr (grow F w1 wr) a (hangAll ns y (ks.take k)) ∧ MoveOk (hangAll ns y (ks.take k)) x y (ks.drop k)) (fun i wr => ks.length - (intOf i).toNat)
    case atStart => exact ⟨0, Nat.zero_le _, rfl, Mut.refl _ _, hR.refl, HO.out⟩
    case round =>
      obtain ⟨k, hk, rfl, hm, hA, hO⟩ := hrel
      by_cases hlt : k < ks.length
      · have hKr : IntRow wr (fun k => w.heap.size ≤ k) (.slice A1 ks.length p1) ks := hK1.keep (fun j hj hob => hm.block j (hK1.blk_lt j hob) (fun hF => by have := hFlt j hF; omega)) (fun _ h => h)
        obtain ⟨b, rfl, _, hc⟩ := hKr.at_ (by omega)
        have hck := hc k hlt
        have hd : ks.drop k = ks.getD k 0 :: ks.drop (k + 1) := by rw [List.drop_eq_getElem_cons hlt]; simp [List.getD_eq_getElem?_getD, hlt]
        rw [hd] at hO
        obtain ⟨i0, i1, _, hkk⟩ := hO.kid _ (List.mem_cons_self ..)
        have hH := aHang_c wr _ a _ y _ hA hO.b0 hO.b1 i0 i1 hkk hO.above
        have hN := hO.next
        rw [← hangAll_take ns y ks k hlt] at hN hH
        have HH := Lib.hid hH; have HN := Lib.hid hN
        clear hH hN hO hA hd hkk hc hK1 hKr i0 i1
        generalize ks.getD k 0 = z at *
        go_wp2_with (go_at_call 124; refine HH.out.mono ?_; rintro e w' ⟨rfl, hm2, hr2⟩)
        go_roundw
        case rel => exact ⟨k + 1, by omega, by go_num, hm.trans hm2, by rw [grow_trans hm.size hm2.size] at hr2; exact hr2, HN.out⟩
        case measure => simp [intOf]; omega
      · have hk' : k = ks.length := by omega
        subst hk'
        clear hlt
        rw [List.take_length] at hA
        clear hO
        go_wp2
        go_ret
        exact ⟨rfl, (Mut.of_bel hb1).trans (hm.mono fun k hk => .inl hk), hA.mono (grow_bel hsz1) (grow_lt hFlt (Nat.le_trans hsz1 hm.size))⟩
  · have hfin : moveE ns x y = 2 ∧ moveN ns x y = ns := by simp [moveN, moveE, hab]
    rw [hfin.1, hfin.2]
    have HP := Lib.hid hx; have HI := Lib.hid hy; have HA := Lib.hid hab; clear hx hy hfin hab
    go_enter Tryz.func229, Tryz.ntmps229
    go_wp2_with (first | (go_at_call 121; refine (aNone_c h).mono ?_; rintro e w' ⟨rfl, rfl⟩) | (go_at_call 122; refine (aHolds_c h _).mono ?_; rintro e w' ⟨rfl, rfl⟩; first | rw [HP.out] | rw [HI.out]) | (go_at_call 129; refine (aAbove_c h x y y1).mono ?_; rintro e w' ⟨rfl, rfl⟩; rw [HA.out]))
    go_ret
    exact ⟨rfl, Mut.refl _ _, h.refl⟩
end Go.Proofs.YtgaebaokcjhcdaaGreatDoor

/- The arena: Text, with no node ahead of which it stands. -/
set_option linter.unusedVariables false
set_option linter.unusedSimpArgs false
namespace Go.Proofs.YtgaebaokcjhcdaaGreatDoor
open Go.RowKit Lz

theorem nodeAt_app (ns l : List Nd) (i : Int) (h0 : 0 ≤ i) (h1 : i < (ns.length : Int)) : nodeAt (ns ++ l) i = nodeAt ns i := by
  rw [nodeAt_nat _ _ h0, nodeAt_nat _ _ h0]
  simp only [List.getD_eq_getElem?_getD]
  rw [List.getElem?_append_left (by omega)]
theorem upN_app (ns l : List Nd) (i : Int) (h0 : 0 ≤ i) (h1 : i < (ns.length : Int)) : upN (ns ++ l) i = upN ns i := by
  unfold upN; rw [nodeAt_app _ _ _ h0 h1]
theorem above_app {ns l : List Nd} (h : WF ns) (h' : WF (ns ++ l)) (x : Int) : ∀ j, j < (ns.length : Int) → aboveN (ns ++ l) x j = aboveN ns x j := by
  refine up_ind h (fun j hj => ?_) (fun j j0 j1 ih => ?_)
  · rw [above_neg _ _ hj, above_neg _ _ hj]
  · rw [aboveN_step h' _ _ (by simp; omega), aboveN_step h _ _ j1, upN_app _ _ _ j0 j1, ih]
/-- Nothing stands below a node that is not there. -/
theorem above_out {ns : List Nd} (h : WF ns) (x : Int) (hx : (ns.length : Int) ≤ x) : ∀ j, j < (ns.length : Int) → aboveN ns x j = false := by
  refine up_ind h (fun j hj => above_neg _ _ hj) (fun j j0 j1 ih => ?_)
  rw [aboveN_step h _ _ j1, if_neg (by omega)]
  have : (j == x) = false := beq_eq_false_iff_ne.2 (by omega)
  rw [this, ih]; rfl
theorem addN_plain (ns : List Nd) (n : Nd) (h : isTemplate n = false) : addN ns n = ns ++ [bareN n] := by unfold addN; rw [h]; rfl
theorem nodeAt_last (ns : List Nd) (n : Nd) : nodeAt (ns ++ [n]) (ns.length : Int) = n := by rw [nodeAt_cast]; simp

theorem Mut.from_drew {F : Nat → Prop} {w w' : World} {n : Nat} (h : Mut F (w.drewN n) w') : Mut F w w' := ⟨h.os, h.tape, h.output, h.size, h.block⟩
theorem WF.addText {ns : List Nd} (h : WF ns) (z : Int) (s : Str) (z0 : 0 ≤ z) (z1 : z < (ns.length : Int)) : WF (Lz.addText ns z s) := by
  have hl : (Lz.addText ns z s).length = ns.length := by simp [Lz.addText]
  have e : ∀ i, i < ns.length → (Lz.addText ns z s).getD i nd0 = if i = z.toNat then { ns.getD i nd0 with text := (ns.getD i nd0).text ++ s } else ns.getD i nd0 := fun i hi => by
    unfold Lz.addText; rw [getD_modify i hi]
  have ek : ∀ i, i < ns.length → ((Lz.addText ns z s).getD i nd0).kids = (ns.getD i nd0).kids := fun i hi => by rw [e i hi]; split <;> rfl
  have ep : ∀ i, i < ns.length → ((Lz.addText ns z s).getD i nd0).parent = (ns.getD i nd0).parent := fun i hi => by rw [e i hi]; split <;> rfl
  have en : ∀ i, i < ns.length → ((Lz.addText ns z s).getD i nd0).kind = (ns.getD i nd0).kind := fun i hi => by rw [e i hi]; split <;> rfl
  have np : ∀ x : Int, 0 ≤ x → x < (ns.length : Int) → (nodeAt (Lz.addText ns z s) x).parent = (nodeAt ns x).parent := fun x h0 h1 => by rw [nodeAt_nat _ _ h0, nodeAt_nat _ _ h0]; exact ep _ (by omega)
  have nk : ∀ x : Int, 0 ≤ x → x < (ns.length : Int) → (nodeAt (Lz.addText ns z s) x).kids = (nodeAt ns x).kids := fun x h0 h1 => by rw [nodeAt_nat _ _ h0, nodeAt_nat _ _ h0]; exact ek _ (by omega)
  have eu : ∀ i : Nat, i < ns.length → upN (Lz.addText ns z s) i = upN ns i := fun i hi => by
    unfold upN; rw [np i (by omega) (by omega)]
    have : (nodeAt (Lz.addText ns z s) i).kind = (nodeAt ns i).kind := by rw [nodeAt_cast, nodeAt_cast]; exact en i hi
    rw [this]
  refine ⟨fun p hp x hx => ?_, fun p hp => ?_, fun i hi => ?_, fun i hi h6 => ?_, ?_⟩
  · rw [hl] at hp; rw [ek p hp] at hx
    have := h.kid p hp x hx
    exact ⟨this.1, by rw [hl]; exact this.2.1, by rw [np x this.1 this.2.1]; exact this.2.2⟩
  · rw [hl] at hp; rw [ek p hp]; exact h.nodup p hp
  · rw [hl] at hi; rw [ep i hi]
    rcases h.parent i hi with h1 | ⟨h1, h2⟩
    · exact .inl h1
    · by_cases hn : (ns.getD i nd0).parent < 0
      · exact .inl hn
      · exact .inr ⟨by rw [hl]; exact h1, by rw [nk _ (by omega) h1]; exact h2⟩
  · rw [hl] at hi; rw [en i hi] at h6; rw [ep i hi]; exact h.content i hi h6
  · obtain ⟨r, hr⟩ := h.rank
    refine ⟨r, fun i hi hu => ?_⟩
    rw [hl] at hi
    rw [eu i hi] at hu ⊢
    exact hr i hi hu
def textNd (s : Str) : Nd := { kind := 4, text := s, frm := -1, to := -1 }

set_option maxHeartbeats 2000000 in
set_option maxRecDepth 100000 in
theorem aText_c (w : World) (F : Nat → Prop) (a : Nat) (ns : List Nd) (p : Int) (s : Str) (h : ArenaRep w F a ns) (hroom : ns.length + 2 ≤ 1048576) (htl : ∀ i, (nodeAt ns i).text.size + s.size ≤ 9223372036854775807) :
    Calls Tryz.prog 58 #[.pointer (some ⟨a, 0, none⟩), .int .i64 p, .int .i64 (-1), .string s] w fun e w' => e = .returned (.int .i64 (textE ns p (-1))) ∧ Mut F w w' ∧ ArenaRep w' (grow F w w') a (textN ns p (-1) s) := by
  cases hp : holdsN ns p
  · have hfin : textE ns p (-1) = 2 ∧ textN ns p (-1) s = ns := by simp [textN, textE, hp]
    rw [hfin.1, hfin.2]
    have HP := Lib.hid hp; clear hp hfin
    go_enter Tryz.func58, Tryz.ntmps58
    go_wp2_with (first | (go_at_call 121; refine (aNone_c h).mono ?_; rintro e w' ⟨rfl, rfl⟩) | (go_at_call 122; refine (aHolds_c h _).mono ?_; rintro e w' ⟨rfl, rfl⟩; rw [HP.out]))
    go_ret
    exact ⟨rfl, Mut.refl _ _, h.refl⟩
  obtain ⟨p0, p1⟩ := holdsN_has hp
  have hE : textE ns p (-1) = 0 := by simp [textE, hp]
  rw [hE]
  cases he : s == n_empty
  · have q1 : s.toList.isEmpty = false := (emptyS s).trans he
    have hfin : textN ns p (-1) s = if 0 < (nodeAt ns p).kids.length ∧ (nodeAt ns ((nodeAt ns p).kids.getD ((nodeAt ns p).kids.length - 1) 0)).kind = 4 then addText ns ((nodeAt ns p).kids.getD ((nodeAt ns p).kids.length - 1) 0) s
        else hangN (addN ns (textNd s)) p (-1) (ns.length : Int) := by
      unfold textN textNd
      rw [hE, he]
      simp
    have h' := h
    obtain ⟨g, cap, cur, va, vk, hv⟩ := h'
    have hs := hv.small
    have hh := hv.head
    have hag := hv.ag
    have hkp := hv.kidsc p p0 p1
    have hrow := hv.kids p.toNat (by omega)
    have hkl := Nat.le_trans (kids_le hv.wf p.toNat (by omega)) hs
    rw [← nodeAt_nat _ _ p0] at hrow hkl
    have hkid := hv.wf.kid p.toNat (by omega)
    rw [← nodeAt_nat _ _ p0] at hkid
    have hpl : isTemplate (textNd s) = false := by simp [isTemplate, textNd]
    have hwa : WF (ns ++ [bareN (textNd s)]) := hv.wf.add (textNd s) (.inr hv.pos)
    have hadd := addN_plain ns (textNd s) hpl
    have hhang : (nodeAt (addN ns (textNd s)) (ns.length : Int)).kind ≠ 6 ∧ aboveN (addN ns (textNd s)) (ns.length : Int) p = false := by
      rw [hadd]
      refine ⟨by rw [nodeAt_last]; exact (by decide : (4 : Int) ≠ 6), ?_⟩
      rw [above_app hv.wf hwa _ p p1]
      exact above_out hv.wf _ (Int.le_refl _) p p1
    have hAdd := fun W (hW : ArenaRep W F a ns) => aAdd_c W F a ns (fun _ => False) (textNd s) (.slice none 0 0) (.slice none 0 0) hW (.inl ⟨rfl, rfl⟩) (Nat.zero_le _) ⟨_, _, _, rfl⟩ (by rfl) hroom hpl
    have HP := Lib.hid hp; have HF := Lib.hid hfin; have HH := Lib.hid hhang; have HD := Lib.hid hAdd; have HD2 := Lib.hid hadd; clear hp hfin hhang hAdd hadd he hpl hwa hE
    by_cases hk0 : (nodeAt ns p).kids.length = 0
    · have hT : textN ns p (-1) s = hangN (addN ns (textNd s)) p (-1) (ns.length : Int) := by rw [HF.out, if_neg (by omega)]
      rw [hT]
      clear hT HF hkid hkl
      obtain ⟨A, c, eA⟩ := hrow.shape
      rw [eA, hk0] at hkp
      clear hv hk0 hrow
      go_enter Tryz.func58, Tryz.ntmps58
      go_wp2_with (first | (go_at_call 121; refine (aNone_c h).mono ?_; rintro e w' ⟨rfl, rfl⟩) | (go_at_call 122; refine (aHolds_c h _).mono ?_; rintro e w' ⟨rfl, rfl⟩; rw [HP.out]))
      go_quiet (fail)
      go_wp2_with (first | (go_at_call 59; refine (HD.out _ (h.bel (bel_drN (Below.refl _ _)))).mono ?_; rintro e w1 ⟨rfl, hm1, hr1⟩) | (go_at_call 124; refine (aHang_c _ _ a _ p (ns.length : Int) hr1 p0 (by rw [HD2.out]; simp; omega) (by omega) (by rw [HD2.out]; simp; omega) HH.out.1 HH.out.2).mono ?_; rintro e w2 ⟨rfl, hm2, hr2⟩))
      go_ret
      rw [grow_trans hm1.size hm2.size] at hr2
      exact ⟨rfl, (hm1.trans hm2).from_drew, hr2⟩
    · obtain ⟨m, hm⟩ : ∃ m, (nodeAt ns p).kids.length = m + 1 := ⟨(nodeAt ns p).kids.length - 1, by omega⟩
      have hF2 := HF.out
      rw [hm] at hF2
      simp only [Nat.add_sub_cancel, Nat.succ_pos, true_and] at hF2
      rcases hrow with ⟨_, e⟩ | ⟨gk, capk, curk, evk, hFk, hbk, r1, r2, r3, r4⟩
      · rw [e] at hk0; simp at hk0
      have hz := r4 m (by omega)
      have hzk := hkid ((nodeAt ns p).kids.getD m 0) (by simp [List.getD_eq_getElem?_getD, show m < (nodeAt ns p).kids.length by omega])
      obtain ⟨z0, z1, _⟩ := hzk
      have hzc : w.cell? ⟨gk, m, none⟩ = some (.int .i64 ((nodeAt ns p).kids.getD m 0)) := by rw [blk_cell hbk]; exact hz
      have hzkind := hv.kindc _ z0 z1
      have hztext := hv.textc _ z0 z1
      have hfr := hv.rowf
      have hset := hv.toArenaP.setText _ s z0 z1
      have hwt := WF.addText hv.wf _ s z0 z1
      have hFg := hv.Fg
      have hHV := Lib.hid hv
      rw [evk, hm] at hkp
      clear HF hkid r4 hz hv hk0
      generalize (nodeAt ns p).kids.getD m 0 = z at *
      have HS := Lib.hid hset; have HW := Lib.hid hwt; clear hset hwt
      by_cases h4 : (nodeAt ns z).kind = 4
      · have hT : textN ns p (-1) s = addText ns z s := by rw [hF2, if_pos h4]
        rw [hT]
        rw [h4] at hzkind
        clear hF2 hT h4
        have hts := htl z
        clear htl
        generalize htx : (nodeAt ns z).text = tx at *
        clear htx
        have htn : ¬ (9223372036854775807 : Int) < (tx.size : Int) + (s.size : Int) := by omega
        have wm : IntKind.i64.wrap (m : Int) = m := IntWalk.i64_in _ (by omega)
        go_enter Tryz.func58, Tryz.ntmps58
        go_wp2_with (first | (go_at_call 121; refine (aNone_c h).mono ?_; rintro e w' ⟨rfl, rfl⟩) | (go_at_call 122; refine (aHolds_c h _).mono ?_; rintro e w' ⟨rfl, rfl⟩; rw [HP.out]))
        go_quiet (fail)
        go_wp2
        go_region
        all_goals (
          go_wp2
          go_ret
          refine ⟨rfl, ?_, ?_⟩
          · exact (Mut.setCell (Mut.of_bel (bel_drN (Below.refl _ _))) (.inl hFg) _)
          · have hV : ArenaRep _ F a (Lz.addText ns z s) := ⟨_, _, _, _, _, { HS.out with wf := HW.out }⟩
            exact hV.keep (fun _ _ => rfl) (fun _ h => .inl h) (fun k hk => hk.elim (fun h => hV.lt k h) (fun h => h.2)))
      · have hT : textN ns p (-1) s = hangN (addN ns (textNd s)) p (-1) (ns.length : Int) := by rw [hF2, if_neg h4]
        rw [hT]
        have hb : ((nodeAt ns z).kind == 4) = false := beq_eq_false_iff_ne.2 h4
        clear hF2 hT h4 HS HW htl
        generalize (nodeAt ns z).kind = kz at *
        go_enter Tryz.func58, Tryz.ntmps58
        go_wp2_with (first | (go_at_call 121; refine (aNone_c h).mono ?_; rintro e w' ⟨rfl, rfl⟩) | (go_at_call 122; refine (aHolds_c h _).mono ?_; rintro e w' ⟨rfl, rfl⟩; rw [HP.out]))
        go_quiet (fail)
        go_wp2_with (first | (go_at_call 59; refine (HD.out _ (h.bel (bel_drN (Below.refl _ _)))).mono ?_; rintro e w1 ⟨rfl, hm1, hr1⟩) | (go_at_call 124; refine (aHang_c _ _ a _ p (ns.length : Int) hr1 p0 (by rw [HD2.out]; simp; omega) (by omega) (by rw [HD2.out]; simp; omega) HH.out.1 HH.out.2).mono ?_; rintro e w2 ⟨rfl, hm2, hr2⟩))
        go_ret
        rw [grow_trans hm1.size hm2.size] at hr2
        exact ⟨rfl, (hm1.trans hm2).from_drew, hr2⟩
  · have q1 : s.toList.isEmpty = true := (emptyS s).trans he
    have hfin : textN ns p (-1) s = ns := by simp [textN, he]
    rw [hfin]
    have HP := Lib.hid hp; clear hp hfin he hE
    go_enter Tryz.func58, Tryz.ntmps58
    go_wp2_with (first | (go_at_call 121; refine (aNone_c h).mono ?_; rintro e w' ⟨rfl, rfl⟩) | (go_at_call 122; refine (aHolds_c h _).mono ?_; rintro e w' ⟨rfl, rfl⟩; rw [HP.out]))
    go_ret
    exact ⟨rfl, Mut.refl _ _, h.refl⟩
end Go.Proofs.YtgaebaokcjhcdaaGreatDoor

/- The arena: New. -/
set_option linter.unusedVariables false
set_option linter.unusedSimpArgs false
namespace Go.Proofs.YtgaebaokcjhcdaaGreatDoor
open Go.RowKit Lz

def docNd : Nd := { kind := 1, parent := -1, frm := -1, to := -1 }
def docIn : Nd := { kind := 1, frm := -1, to := -1 }
def newNodes : List Nd := [docNd]
theorem wf_new : WF newNodes := by
  have e0 : ∀ i, i < newNodes.length → newNodes.getD i nd0 = docNd := by intro i hi; simp [newNodes] at hi; subst hi; rfl
  refine ⟨fun p hp x hx => ?_, fun p hp => ?_, fun i hi => ?_, fun i hi h6 => ?_, fun _ => 0, fun i hi hu => ?_⟩
  · rw [e0 p hp] at hx; simp [docNd] at hx
  · rw [e0 p hp]; simp [docNd]
  · rw [e0 i hi]; exact .inl (by decide)
  · rw [e0 i hi] at h6; exact absurd h6 (by decide)
  · exfalso
    unfold upN at hu
    rw [nodeAt_cast, e0 i hi, if_neg (by decide)] at hu
    exact absurd hu (by decide)

set_option maxHeartbeats 2000000 in
set_option maxRecDepth 100000 in
theorem aNew_c (w : World) :
    Calls Tryz.prog 107 #[] w fun e w' => ∃ a, e = .returned (.pointer (some ⟨a, 0, none⟩)) ∧ Bel w w' ∧ ArenaRep w' (fun k => w.heap.size ≤ k ∧ k < w'.heap.size) a newNodes := by
  go_enter Tryz.func107, Tryz.ntmps107
  go_wp2_with (go_at_call 126; refine (bare_x _ (fun _ => False) docIn none 0 0 none 0 0 (.inl ⟨rfl, rfl⟩) (Nat.zero_le _)).mono ?_; rintro e w1 ⟨A3, p3, rfl, hA1, hb1⟩; dsimp only [docIn])
  go_ret
  have B1 := heap_alloc2_new w1 (.cells #[.int .i64 1, .string n_empty, .string n_empty, .int .i64 0, .slice A3 0 p3, .bool false, .int .i64 (-1), .int .i64 0, .slice none 0 0, .int .i64 (-1), .int .i64 (-1)] 54 (0, 0)) (.cells #[.slice (some ⟨w1.heap.size, 0, none⟩) 1 1] 109 (0, 0))
  have B0 := heap_alloc2_old w1 (.cells #[.int .i64 1, .string n_empty, .string n_empty, .int .i64 0, .slice A3 0 p3, .bool false, .int .i64 (-1), .int .i64 0, .slice none 0 0, .int .i64 (-1), .int .i64 (-1)] 54 (0, 0)) (.cells #[.slice (some ⟨w1.heap.size, 0, none⟩) 1 1] 109 (0, 0))
  have hs := hb1.size
  have hsz : ∀ o o', ((w1.alloc o).alloc o').heap.size = w1.heap.size + 1 + 1 := by intro o o'; simp
  refine ⟨w1.heap.size + 1, rfl, bel_al (bel_al hb1), w1.heap.size, 1, #[.int .i64 1, .string n_empty, .string n_empty, .int .i64 0, .slice A3 0 p3, .bool false, .int .i64 (-1), .int .i64 0, .slice none 0 0, .int .i64 (-1), .int .i64 (-1)], fun _ => .slice A3 0 p3, fun _ => .slice none 0 0, ?_⟩
  have e0 : ∀ i, i < newNodes.length → newNodes.getD i nd0 = docNd := by intro i hi; simp [newNodes] at hi; subst hi; rfl
  refine { blk := B1, Fa := ⟨by omega, by rw [hsz]; omega⟩, Fg := ⟨hs, by rw [hsz]; omega⟩, row := B0, pos := by decide, le := by decide, capm := by decide, fit := by exact (by decide : (1:Nat) * 11 ≤ 11), cells := ?_, attrs := ?_, kids := ?_, apart := ?_, lt := fun k hk => hk.2, small := by decide, asmall := ?_, wf := wf_new }
  · intro i j hi hj
    rw [e0 i hi]
    have : i = 0 := by simp [newNodes] at hi; exact hi
    subst this
    rcases (show j = 0 ∨ j = 1 ∨ j = 2 ∨ j = 3 ∨ j = 4 ∨ j = 5 ∨ j = 6 ∨ j = 7 ∨ j = 8 ∨ j = 9 ∨ j = 10 by omega) with rfl | rfl | rfl | rfl | rfl | rfl | rfl | rfl | rfl | rfl | rfl <;> rfl
  · intro i hi
    rw [e0 i hi]
    exact (hA1.bel (bel_al (bel_al (Below.refl _ _)))).keep2 (fun _ _ _ => rfl) (fun k hk hob => ⟨hk, Nat.lt_of_lt_of_le (hA1.blk_lt k hob) (by simp; omega)⟩)
  · intro i hi
    rw [e0 i hi]
    exact .inl ⟨rfl, rfl⟩
  · intro i j b hi hj h1 h2
    simp [newNodes] at hi hj
    omega
  · intro i hi; rw [e0 i hi]; exact Nat.zero_le _
end Go.Proofs.YtgaebaokcjhcdaaGreatDoor

/- The stack of open elements: what memory holds for it; the functions that only read. -/
set_option linter.unusedVariables false
set_option linter.unusedSimpArgs false
namespace Go.Proofs.YtgaebaokcjhcdaaGreatDoor
open Go.RowKit Lz

structure StackV (w : World) (F : Nat → Prop) (st a : Nat) (v : Value) (l : List OpEl) : Prop where
  blk : w.heap[st]? = some (.cells #[.pointer (some ⟨a, 0, none⟩), v] 82 (0, 0))
  Fs : F st
  row : OpRow w F v l
  lt : ∀ k, F k → k < w.heap.size
  small : l.length ≤ 512
def StackRep (w : World) (F : Nat → Prop) (st a : Nat) (l : List OpEl) : Prop := ∃ v, StackV w F st a v l
theorem OpRow.form {w : World} {F : Nat → Prop} {v : Value} {l : List OpEl} (h : OpRow w F v l) :
    ∃ A cap, v = .slice A l.length cap ∧ (0 < l.length → ∃ b, A = some ⟨b, 0, none⟩ ∧ ∀ i, i < l.length → w.cell? ⟨b, i * 3, none⟩ = some (.int .i64 (l.getD i {}).node) ∧ w.cell? ⟨b, i * 3 + 1, none⟩ = some (.int .i64 (l.getD i {}).space) ∧ w.cell? ⟨b, i * 3 + 2, none⟩ = some (.string (l.getD i {}).name)) := by
  rcases h with ⟨rfl, rfl⟩ | ⟨g, cap, cur, rfl, hF, hb, r1, r2, r3, r4⟩
  · exact ⟨_, _, rfl, fun h => by simp at h⟩
  · exact ⟨_, _, rfl, fun _ => ⟨g, rfl, fun i hi => by rw [blk_cell hb, blk_cell hb, blk_cell hb]; exact r4 i hi⟩⟩
theorem StackRep.keep {w w' : World} {F G : Nat → Prop} {st a : Nat} {l : List OpEl} (h : StackRep w F st a l) (hk : ∀ k, F k → w'.heap[k]? = w.heap[k]?) (hG : ∀ k, F k → G k) (hlt : ∀ k, G k → k < w'.heap.size) : StackRep w' G st a l := by
  obtain ⟨v, h⟩ := h
  exact ⟨v, (hk st h.Fs).trans h.blk, hG _ h.Fs, h.row.keep (fun k hF _ => hk k hF) hG, hlt, h.small⟩
theorem StackRep.lt {w : World} {F : Nat → Prop} {st a : Nat} {l : List OpEl} (h : StackRep w F st a l) : ∀ k, F k → k < w.heap.size := by
  obtain ⟨v, h⟩ := h
  exact h.lt
theorem StackRep.bel {w w' : World} {F : Nat → Prop} {st a : Nat} {l : List OpEl} (h : StackRep w F st a l) (hb : Bel w w') : StackRep w' F st a l :=
  h.keep (fun k hF => hb.block k (h.lt k hF)) (fun _ h => h) (fun k hF => Nat.lt_of_lt_of_le (h.lt k hF) hb.size)
theorem StackRep.refl {w : World} {F : Nat → Prop} {st a : Nat} {l : List OpEl} (h : StackRep w F st a l) : StackRep w (grow F w w) st a l := h.keep (fun _ _ => rfl) (fun _ h => .inl h) (fun k hk => h.lt k (grow_self hk))
theorem StackRep.small {w : World} {F : Nat → Prop} {st a : Nat} {l : List OpEl} (h : StackRep w F st a l) : l.length ≤ 512 := by
  obtain ⟨v, h⟩ := h
  exact h.small
/-- What a walk wants. -/
theorem StackRep.form {w : World} {F : Nat → Prop} {st a : Nat} {l : List OpEl} (h : StackRep w F st a l) :
    ∃ A cap, w.cell? ⟨st, 0, none⟩ = some (.pointer (some ⟨a, 0, none⟩)) ∧ w.cell? ⟨st, 1, none⟩ = some (.slice A l.length cap) ∧ w.frozen? ⟨st, 1, none⟩ = false ∧ l.length ≤ 512 ∧
      (0 < l.length → ∃ b, A = some ⟨b, 0, none⟩ ∧ ∀ i, i < l.length → w.cell? ⟨b, i * 3, none⟩ = some (.int .i64 (l.getD i {}).node) ∧ w.cell? ⟨b, i * 3 + 1, none⟩ = some (.int .i64 (l.getD i {}).space) ∧ w.cell? ⟨b, i * 3 + 2, none⟩ = some (.string (l.getD i {}).name)) := by
  obtain ⟨v, h⟩ := h
  obtain ⟨A, cap, rfl, hr⟩ := h.row.form
  exact ⟨A, cap, by rw [blk_cell h.blk]; rfl, by rw [blk_cell h.blk]; rfl, blk_frozen h.blk 1, h.small, hr⟩

variable {w : World} {F : Nat → Prop} {st a : Nat} {s : St}
theorem sLen_c (h : StackRep w F st a s.stk) :
    Calls Tryz.prog 20 #[.pointer (some ⟨st, 0, none⟩)] w fun e w' => e = .returned (.int .i64 s.stk.length) ∧ w = w' := by
  obtain ⟨A, cap, c0, c1, _, hs, _⟩ := h.form
  go_enter Tryz.func20, Tryz.ntmps20
  go_wp2
  go_ret
  exact ⟨rfl, rfl⟩
theorem sNone_c (h : StackRep w F st a s.stk) :
    Calls Tryz.prog 171 #[.pointer (some ⟨st, 0, none⟩)] w fun e w' => e = .returned (.bool false) ∧ w = w' := by
  obtain ⟨A, cap, c0, c1, _, hs, _⟩ := h.form
  go_enter Tryz.func171, Tryz.ntmps171
  go_wp2
  go_ret
  exact ⟨rfl, rfl⟩
theorem sAt_c (h : StackRep w F st a s.stk) (k : Int) :
    Calls Tryz.prog 49 #[.pointer (some ⟨st, 0, none⟩), .int .i64 k] w fun e w' => e = .returned (.int .i64 (s.at_ k)) ∧ w = w' := by
  obtain ⟨A, cap, c0, c1, _, hs, hr⟩ := h.form
  by_cases k0 : k < 0
  · have hfin : s.at_ k = -1 := by unfold St.at_; simp [k0]
    rw [hfin]; clear hfin
    go_enter Tryz.func49, Tryz.ntmps49
    go_wp2
    go_ret
    exact ⟨rfl, rfl⟩
  · by_cases k1 : (s.stk.length : Int) ≤ k
    · have hfin : s.at_ k = -1 := by unfold St.at_; simp [k1]
      rw [hfin]; clear hfin
      go_enter Tryz.func49, Tryz.ntmps49
      go_wp2_with (go_at_call 20; refine (sLen_c h).mono ?_; rintro e w' ⟨rfl, rfl⟩)
      go_ret
      exact ⟨rfl, rfl⟩
    · have hfin : s.at_ k = (s.stk.getD k.toNat {}).node := by unfold St.at_ St.el; simp [k0, k1]
      rw [hfin]; clear hfin
      obtain ⟨b, rfl, hc⟩ := hr (by omega)
      obtain ⟨d0, _, _⟩ := hc k.toNat (by omega)
      clear hc hr
      generalize (s.stk.getD k.toNat {}).node = z at *
      have k2 : 0 ≤ k := by omega
      have k3 : k < (s.stk.length : Int) := by omega
      go_enter Tryz.func49, Tryz.ntmps49
      go_wp2_with (go_at_call 20; refine (sLen_c h).mono ?_; rintro e w' ⟨rfl, rfl⟩)
      go_ret
      exact ⟨rfl, rfl⟩
theorem sTop_c (h : StackRep w F st a s.stk) :
    Calls Tryz.prog 111 #[.pointer (some ⟨st, 0, none⟩)] w fun e w' => e = .returned (.int .i64 s.top) ∧ w = w' := by
  have hs := h.small
  have wk : IntKind.i64.wrap ((s.stk.length : Int) - 1) = (s.stk.length : Int) - 1 := IntWalk.i64_in _ (by omega)
  have hd : s.top = s.at_ ((s.stk.length : Int) - 1) := rfl
  rw [hd]
  clear hd
  go_enter Tryz.func111, Tryz.ntmps111
  go_wp2_with (first | (go_at_call 20; refine (sLen_c h).mono ?_; rintro e w' ⟨rfl, rfl⟩) | (go_at_call 49; refine (sAt_c h _).mono ?_; rintro e w' ⟨rfl, rfl⟩))
  go_ret
  exact ⟨rfl, rfl⟩
theorem lastBelow_hit {p : Nat → Bool} {k : Nat} (h : p k = true) : lastBelow p (k + 1) = (k : Int) := by simp [lastBelow, h]
theorem lastBelow_miss {p : Nat → Bool} {k : Nat} (h : p k = false) : lastBelow p (k + 1) = lastBelow p k := by simp [lastBelow, h]
theorem sIndex_c (h : StackRep w F st a s.stk) (i : Int) :
    Calls Tryz.prog 115 #[.pointer (some ⟨st, 0, none⟩), .int .i64 i] w fun e w' => e = .returned (.int .i64 (s.index i)) ∧ w = w' := by
  obtain ⟨A, cap, c0, c1, _, hs, hr⟩ := h.form
  have wk : IntKind.i64.wrap ((s.stk.length : Int) - 1) = (s.stk.length : Int) - 1 := IntWalk.i64_in _ (by omega)
  have HR := Lib.hid hr; clear hr
  go_enter Tryz.func115, Tryz.ntmps115
  go_wp2_with (go_at_call 20; refine (sLen_c h).mono ?_; rintro e w' ⟨rfl, rfl⟩)
  go_loop [5] (fun x => ∃ n : Nat, n ≤ s.stk.length ∧ x = .int .i64 ((n : Int) - 1) ∧ lastBelow (fun k => (s.el k).node == i) n = s.index i) (fun x => (intOf x + 1).toNat)
  case atStart => exact ⟨s.stk.length, Nat.le_refl _, rfl, rfl⟩
  case round =>
    obtain ⟨n, hn, rfl, heq⟩ := hrel
    cases n with
    | zero =>
      have HE := Lib.hid heq; clear heq
      go_wp2
      go_ret
      exact ⟨ret_int (by rw [← HE.out]; rfl), rfl⟩
    | succ n =>
      obtain ⟨b, rfl, hc⟩ := HR.out (by omega)
      obtain ⟨d0, _, _⟩ := hc n (by omega)
      have e1 : ((n + 1 : Nat) : Int) - 1 = (n : Int) := by omega
      have wn : IntKind.i64.wrap ((n : Int) - 1) = (n : Int) - 1 := IntWalk.i64_in _ (by omega)
      rw [e1]
      clear hc e1
      cases hb : (s.stk.getD n {}).node == i
      · rw [lastBelow_miss hb] at heq
        have HE := Lib.hid heq; clear heq
        generalize (s.stk.getD n {}).node = z at *
        go_wp2
        go_round
        case rel => exact ⟨n, by omega, rfl, HE.out⟩
        case measure => simp [intOf]
      · rw [lastBelow_hit hb] at heq
        have HE := Lib.hid heq; clear heq
        generalize (s.stk.getD n {}).node = z at *
        go_wp2
        go_ret
        exact ⟨ret_int HE.out, rfl⟩
end Go.Proofs.YtgaebaokcjhcdaaGreatDoor

/- The stack: element, Pop, Push. -/
set_option linter.unusedVariables false
set_option linter.unusedSimpArgs false
namespace Go.Proofs.YtgaebaokcjhcdaaGreatDoor
open Go.RowKit Lz
variable {w : World} {F Fa : Nat → Prop} {st a : Nat} {s : St}

def opV (o : OpEl) : Value := .agg #[.int .i64 o.node, .int .i64 o.space, .string o.name]

set_option maxHeartbeats 2000000 in
theorem sElement_c (h : StackRep w F st a s.stk) (hA : ArenaRep w Fa a s.nodes) (i : Int) :
    Calls Tryz.prog 199 #[.pointer (some ⟨st, 0, none⟩), .int .i64 i] w fun e w' =>
      e = .returned (.tuple #[opV (if (s.node i).kind == 3 then s.element i else {}), .int .i64 (if (s.node i).kind == 3 then 0 else 2)]) ∧ Bel w w' := by
  obtain ⟨A, cap, c0, c1, _, hs, hr⟩ := h.form
  have hstl : st < w.heap.size := by obtain ⟨v, h⟩ := h; exact h.lt st h.Fs
  have hN : ∀ W, ArenaRep W Fa a s.nodes → _ := fun W hW => aNode_c hW i
  clear hr
  have hel : s.element i = { node := i, space := (s.node i).space, name := (s.node i).name } := rfl
  rw [hel]
  have hnode : nodeAt s.nodes i = s.node i := rfl
  rw [hnode] at hN
  generalize s.node i = n at *
  clear hel hnode
  have HN := Lib.hid hN; clear hN
  cases hk : n.kind == 3
  · have hk' : (n.kind != 3) = true := by simpa using hk
    clear hk
    go_enter Tryz.func199, Tryz.ntmps199
    go_wp2_with (first | (go_at_call 171; refine (sNone_c (h.bel (bel_alloc _ _))).mono ?_; rintro e w' ⟨rfl, rfl⟩) | (go_at_call 46; refine (HN.out _ (hA.bel (bel_alloc _ _))).mono ?_; rintro e w1 ⟨v1, rfl, ⟨va, vk, rfl, hVa, hVk⟩, hb1⟩; obtain ⟨A1, q1, rfl⟩ := hVa.shape; obtain ⟨A2, q2, rfl⟩ := hVk.shape; unfold ndCells; have B0 := (hb1.block w.heap.size (by simp)).trans (heap_alloc_new w _); have z0 := (Array.getElem?_eq_some_iff.1 B0).1; have f0 := blk_frozen B0 0; have f1 := blk_frozen B0 1; have f2 := blk_frozen B0 2; have r0 := blk_cell B0 0; have r1 := blk_cell B0 1; have r2 := blk_cell B0 2; simp only [List.getElem?_toArray, List.getElem?_cons_succ, List.getElem?_cons_zero] at r0 r1 r2; have hbw := bel_tr (bel_alloc w _) hb1; clear B0 hb1))
    refine bodyPost_ret (v := .tuple #[opV {}, .int .i64 2]) (by simp [results, Tryz.results199, go_sem, opV, r0, r1, r2, z0, n_empty]) rfl ⟨rfl, ?_⟩
    exact bel_al (bel_set (bel_set (bel_set hbw (Nat.le_refl _)) (Nat.le_refl _)) (Nat.le_refl _))
  · have hk' : (n.kind != 3) = false := by simpa using hk
    clear hk
    have zne : ∀ w1 : World, w.heap.size < w1.heap.size → w.heap.size ≠ w1.heap.size := by intro w1 h; omega
    go_enter Tryz.func199, Tryz.ntmps199
    go_wp2_with (first | (go_at_call 171; refine (sNone_c (h.bel (bel_alloc _ _))).mono ?_; rintro e w' ⟨rfl, rfl⟩) | (go_at_call 46; refine (HN.out _ (hA.bel (bel_alloc _ _))).mono ?_; rintro e w1 ⟨v1, rfl, ⟨va, vk, rfl, hVa, hVk⟩, hb1⟩; obtain ⟨A1, q1, rfl⟩ := hVa.shape; obtain ⟨A2, q2, rfl⟩ := hVk.shape; unfold ndCells; have B0 := (hb1.block w.heap.size (by simp)).trans (heap_alloc_new w _); have z0 := (Array.getElem?_eq_some_iff.1 B0).1; have f0 := blk_frozen B0 0; have f1 := blk_frozen B0 1; have f2 := blk_frozen B0 2; have r0 := blk_cell B0 0; have r1 := blk_cell B0 1; have r2 := blk_cell B0 2; simp only [List.getElem?_toArray, List.getElem?_cons_succ, List.getElem?_cons_zero] at r0 r1 r2; have hbw := bel_tr (bel_alloc w _) hb1; clear B0 hb1))
    refine bodyPost_ret (v := .tuple #[opV { node := i, space := n.space, name := n.name }, .int .i64 0]) (by simp [results, Tryz.results199, go_sem, opV, r0, r1, r2, z0]) rfl ⟨rfl, ?_⟩
    exact bel_al (bel_set (bel_set (bel_set hbw (Nat.le_refl _)) (Nat.le_refl _)) (Nat.le_refl _))

theorem OpRow.take {w : World} {F : Nat → Prop} {A : Option Addr} {n cap : Nat} {l : List OpEl} (h : OpRow w F (.slice A n cap) l) (k : Nat) (hk : k ≤ l.length) (h0 : k = 0 → A ≠ none) : OpRow w F (.slice A k cap) (l.take k) := by
  rcases h with ⟨e, rfl⟩ | ⟨g, c, cur, e, hF, hb, r1, r2, r3, r4⟩
  · injection e with e1 e2 e3
    have : k = 0 := by simpa using hk
    exact absurd e1 (h0 this)
  · injection e with e1 e2 e3
    subst e1; subst e3
    have hl : (l.take k).length = k := by simp; omega
    refine .inr ⟨g, cap, cur, by rw [hl], hF, hb, by omega, r2, r3, fun i hi => ?_⟩
    rw [hl] at hi
    have := r4 i (by omega)
    simp only [List.getD_eq_getElem?_getD, List.getElem?_take_of_lt hi] at this ⊢
    exact this
/-- A stack whose row is cut is one. -/
theorem StackV.cutAt {w W : World} {F : Nat → Prop} {st a n cap : Nat} {A : Option Addr} {l : List OpEl} (h : StackV w F st a (.slice A n cap) l) (k : Nat) (hk : k ≤ l.length) (h0 : k = 0 → A ≠ none) (hW : W.heap = w.heap) :
    StackRep (W.setCell ⟨st, 1, none⟩ (.slice A k cap)) F st a (l.take k) := by
  have hset : ∀ j, j ≠ st → (W.setCell ⟨st, 1, none⟩ (.slice A k cap)).heap[j]? = w.heap[j]? := fun j hj => by rw [Below.heap_setCell _ _ _ _ hj, hW]
  refine ⟨.slice A k cap, ?_, h.Fs, (h.row.take k hk h0).keep (fun j hF hob => hset j ?_) (fun _ h => h), fun j hj => by simpa [hW] using h.lt j hj, by have := h.small; simp; omega⟩
  · have hb : W.heap[st]? = some (.cells #[.pointer (some ⟨a, 0, none⟩), .slice A n cap] 82 (0, 0)) := by rw [hW]; exact h.blk
    rw [heap_setCell_same _ _ _ _ _ _ hb]; rfl
  · rcases h.row with ⟨e, _⟩ | ⟨g, c, cur, e, hF, hb, _⟩
    · injection e with e1 _ _
      subst e1
      simp [Value.ownBlock] at hob
    · injection e with e1 _ _
      subst e1
      have : g = j := by simpa [Value.ownBlock] using hob
      subst this
      exact blk_ne hb h.blk (by decide)
theorem sPop_c (h : StackRep w F st a s.stk) :
    Calls Tryz.prog 41 #[.pointer (some ⟨st, 0, none⟩)] w fun e w' => e = .returned (.int .i64 s.top) ∧ Mut F w w' ∧ StackRep w' (grow F w w') st a s.pop.stk := by
  have h' := h
  obtain ⟨A, cap, c0, c1, f1, hs, hr⟩ := h.form
  obtain ⟨v, hv⟩ := h'
  have hb := hv.blk
  have ev : v = .slice A s.stk.length cap := by
    have e1 := blk_cell hb 1
    rw [c1] at e1
    simpa using e1.symm
  subst ev
  by_cases h0 : s.stk.length = 0
  · have e : s.pop.stk = s.stk := by unfold St.pop; simp [List.eq_nil_of_length_eq_zero h0]
    rw [e]
    have H0 := h0
    clear hr hv hb e
    go_enter Tryz.func41, Tryz.ntmps41
    go_wp2_with (first | (go_at_call 111; refine (sTop_c h).mono ?_; rintro e w' ⟨rfl, rfl⟩) | (go_at_call 20; refine (sLen_c h).mono ?_; rintro e w' ⟨rfl, rfl⟩))
    go_ret
    exact ⟨rfl, Mut.refl _ _, h.refl⟩
  · obtain ⟨b, rfl, _⟩ := hr (by omega)
    have hcut := hv.cutAt (s.stk.length - 1) (by omega) (fun _ e => by cases e) (W := w) rfl
    have wk : IntKind.i64.wrap ((s.stk.length : Int) - 1) = (s.stk.length : Int) - 1 := IntWalk.i64_in _ (by omega)
    have tk : ((s.stk.length : Int) - 1).toNat = s.stk.length - 1 := by omega
    have g0 : (0 : Int) < (s.stk.length : Int) := by omega
    have hcap : s.stk.length ≤ cap := by
      rcases hv.row with ⟨e, _⟩ | ⟨g, c, cur, e, hF, hb, r1, _⟩
      · cases e
      · injection e with _ _ e3; subst e3; exact r1
    have l1 : (0 : Int) ≤ (s.stk.length : Int) - 1 := by omega
    have l2 : (s.stk.length : Int) - 1 ≤ (cap : Int) := by omega
    have hFs := hv.Fs
    have HC := Lib.hid hcut
    clear hr hv hb hcut
    go_enter Tryz.func41, Tryz.ntmps41
    go_wp2_with (first | (go_at_call 111; refine (sTop_c h).mono ?_; rintro e w' ⟨rfl, rfl⟩) | (go_at_call 20; refine (sLen_c h).mono ?_; rintro e w' ⟨rfl, rfl⟩))
    go_ret
    exact ⟨rfl, (Mut.refl _ _).setCell (.inl hFs) _, HC.out.keep (fun _ _ => rfl) (fun _ h => .inl h) (fun k hk => hk.elim (fun h2 => HC.out.lt k h2) (fun h2 => h2.2))⟩
end Go.Proofs.YtgaebaokcjhcdaaGreatDoor
