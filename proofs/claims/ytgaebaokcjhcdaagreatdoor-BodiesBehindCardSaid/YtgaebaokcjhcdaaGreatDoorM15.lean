/- The document's builder (S): Put, Insert, Imply. -/
import Derived.Test.YtgaebaokcjhcdaaGreatDoorM14

set_option linter.unusedVariables false
set_option linter.unusedSimpArgs false
namespace Go.Proofs.YtgaebaokcjhcdaaGreatDoor
open Go.RowKit Lz
variable {w w' : World} {F : Nat → Prop} {sp : Nat} {ns : List RN} {op : List Int}

set_option maxRecDepth 100000 in
set_option maxHeartbeats 1000000 in
theorem rPut_c (h : SRep w F sp ns op) (p i : Nat) (hpi : p < i) (hi : i < ns.length) (hp : (ns.getD i rn0).parent = -1) (hk : (ns.getD p rn0).kids.length + 1 ≤ ns.length) :
    Calls Tryz.prog 164 #[.pointer (some ⟨sp, 0, none⟩), .int .i64 i, .int .i64 p] w fun e w' => e = .returned (.tuple #[]) ∧ Mut F w w' ∧ SRep w' (grow F w w') sp (rSet ns p i) op := by
  have HP := Lib.hid (rPlace_c h (p : Int) (by omega) (by omega))
  have HL := Lib.hid (rLay_c h p i hpi hi hp hk)
  go_enter Tryz.func164, Tryz.ntmps164
  go_wp2_with (first | (go_at_call 196; refine HP.out.mono ?_; rintro e w' ⟨rfl, rfl⟩) | (go_at_call 197; refine HL.out.mono ?_; rintro e w1 ⟨rfl, h1, h2⟩))
  go_end0
  exact ⟨rfl, h1, h2⟩
theorem rf_opened {w W w2 : World} {F : Nat → Prop} {sp g cap g' cap' : Nat} {cur cur' : Array Value} {vk : Nat → Value} {vo : Value} {md hd : Int} {qk : Bool} {ns : List RN} {op : List Int} {i : Nat} {pre : Nat → Option Value} (hv : SP w F sp g cap cur vk vo md hd qk ns op) (hbw : Bel w W)
    (hApp : AppR W w2 vo.ownBlock 3 1 op.length 1 pre [.int .i64 (i : Int)] g' cap' cur') (hpre : ∀ j, j < op.length → pre j = some (.int .i64 (op.getD j 0))) (hi : i < ns.length) (hol : op.length + 1 ≤ ns.length) :
    Mut F w (w2.setCell ⟨sp, 1, none⟩ (.slice (some ⟨g', 0, none⟩) (op.length + 1) cap')) ∧
    SRep (w2.setCell ⟨sp, 1, none⟩ (.slice (some ⟨g', 0, none⟩) (op.length + 1) cap')) (grow F w (w2.setCell ⟨sp, 1, none⟩ (.slice (some ⟨g', 0, none⟩) (op.length + 1) cap'))) sp ns (op ++ [(i : Int)]) := by
  have hsl : sp < w.heap.size := hv.lt sp hv.Fs
  have hgl : g < w.heap.size := hv.lt g hv.Fg
  have hob : ∀ k, vo.ownBlock = some k → F k ∧ k < w.heap.size ∧ k ≠ sp ∧ k ≠ g := fun k hk => by
    have hF := hv.opn.blk_in k hk
    rcases hv.opn with ⟨rfl, _⟩ | ⟨g0, c0, cu0, rfl, _, hb0, _⟩
    · cases hk
    · cases hk
      exact ⟨hF, hv.lt _ hF, blk_ne hb0 hv.blk (by decide), blk_ne hb0 hv.row (by decide)⟩
  have hm2 : Mut F w w2 := (Mut.of_bel hbw).trans ((hApp.mut (F := F) (fun k e => (hob k e).1)).mono (fun k h => .inl h))
  have hm : Mut F w (w2.setCell ⟨sp, 1, none⟩ (.slice (some ⟨g', 0, none⟩) (op.length + 1) cap')) := hm2.setCell (.inl hv.Fs) _
  have hga : g' ≠ sp := by
    rcases hApp.where_ with e | e
    · exact (hob g' e).2.2.1
    · have := hbw.size; omega
  have hw2a : w2.heap[sp]? = w.heap[sp]? := (hApp.block sp (Nat.lt_of_lt_of_le hsl hbw.size) (fun e => (hob sp e).2.2.1 rfl)).trans (hbw.block sp hsl)
  have hset : ∀ k, k ≠ sp → (w2.setCell ⟨sp, 1, none⟩ (.slice (some ⟨g', 0, none⟩) (op.length + 1) cap')).heap[k]? = w2.heap[k]? := fun k hk => Below.heap_setCell _ _ _ _ hk
  have hold : ∀ k, k < w.heap.size → k ≠ sp → vo.ownBlock ≠ some k → (w2.setCell ⟨sp, 1, none⟩ (.slice (some ⟨g', 0, none⟩) (op.length + 1) cap')).heap[k]? = w.heap[k]? := fun k hk h1 h2 =>
    (hset k h1).trans ((hApp.block k (Nat.lt_of_lt_of_le hk hbw.size) h2).trans (hbw.block k hk))
  generalize hw3 : w2.setCell ⟨sp, 1, none⟩ (.slice (some ⟨g', 0, none⟩) (op.length + 1) cap') = w3 at *
  have hsz3 : w3.heap.size = w2.heap.size := by rw [← hw3]; simp
  have hlen : (op ++ [(i : Int)]).length = op.length + 1 := by simp
  have hgg : vo.ownBlock ≠ some g := fun e => (hob g e).2.2.2 rfl
  have hsg : g ≠ sp := fun e => blk_ne hv.blk hv.row (by decide) e.symm
  have hG : grow F w w3 g' := by
    rcases hApp.where_ with e | e
    · exact .inl (hob g' e).1
    · exact .inr ⟨Nat.le_trans hbw.size e, by rw [hsz3]; exact (Array.getElem?_eq_some_iff.1 hApp.row).1⟩
  refine ⟨hm, g, cap, cur, vk, .slice (some ⟨g', 0, none⟩) (op.length + 1) cap', md, hd, qk, ?_⟩
  refine { hv with blk := ?_, Fs := .inl hv.Fs, Fg := .inl hv.Fg, row := (hold g hgl hsg hgg).trans hv.row, kids := ?_, opn := ?_, apart := ?_, lt := ?_, osmall := by rw [hlen]; exact hol, opv := ?_ }
  · rw [← hw3, heap_setCell_same _ _ _ _ _ _ (hw2a.trans hv.blk)]; rfl
  · intro j hj
    refine (hv.kids j hj).keep (fun k hF hb => hold k (hv.lt k hF) (fun e => ?_) (hv.apart j k hj hb)) (fun k hF => .inl hF)
    subst e
    rcases hv.kids j hj with ⟨e2, _⟩ | ⟨g0, c0, cu0, e2, _, hb0, _⟩
    · rw [e2] at hb; cases hb
    · rw [e2] at hb; cases hb
      exact blk_ne hb0 hv.blk (by decide) rfl
  · refine .inr ⟨g', cap', cur', by rw [hlen], hG, by rw [hset g' hga]; exact hApp.row, by rw [hlen]; exact hApp.le, hApp.capm, by have := hApp.fit; omega, fun j hj => ?_⟩
    rw [hlen] at hj
    by_cases hj' : j < op.length
    · rw [hApp.pre j (by omega), hpre j hj', List.getD_eq_getElem?_getD, List.getD_eq_getElem?_getD, List.getElem?_append_left hj']
    · have : j = op.length := by omega
      subst this
      have := hApp.new 0 (by simp)
      rw [Nat.mul_one, Nat.add_zero] at this
      rw [this, List.getD_eq_getElem?_getD, List.getElem?_append_right (Nat.le_refl _)]
      simp
  · intro j b hj h3 h4
    have h6 : g' = b := Option.some.inj h4
    subst h6
    rcases hApp.where_ with e | e
    · exact hv.apart j _ hj h3 e
    · have h7 : g' < w.heap.size := hv.lt g' ((hv.kids j hj).blk_in g' h3)
      have h8 := hbw.size
      omega
  · rintro k (hk | hk)
    · exact Nat.lt_of_lt_of_le (hv.lt k hk) hm.size
    · exact hk.2
  · intro x hx
    rcases List.mem_append.1 hx with hx | hx
    · exact hv.opv x hx
    · simp at hx; omega
/-- append of one number onto a row that is nil or a row at its block's head. -/
theorem wpList_append_io {P : Program} {ops : Array Oper} {rest : List Oper} {o : Oper} {a : Act} {w : World} {Q : Exit → Act → World → Prop} (hgd : o.guard = none) (s x : Operand) (t : TypeId)
    (ho : o.op = .call { callee := .builtin .append, args := #[s, x], argTypes := #[t, t] })
    (e : TypeId) (i : TypeInfo) (z : Value) (bytes : Nat) (ht : P.underlying t = some (.slice e)) (hi : P.info? e = some i) (hz : i.zero = some z)
    (hsize : i.size = 1) (hby : i.bytes = bytes) (hzs : z.cells.size = 1)
    (vo : Value) (n : Nat) (f : Nat → Value) (hs : a.eval s = vo) (hc : (vo = .slice none 0 0 ∧ n = 0) ∨ ∃ g cap cur, vo = .slice (some ⟨g, 0, none⟩) n cap ∧ w.heap[g]? = some (.cells cur e (0, 0)) ∧ n ≤ cap ∧ cap ≤ maxLen ∧ cap * 1 ≤ cur.size ∧ ∀ j, j < n → cur[j]? = some (f j))
    (ad : Addr) (c : Nat) (u0 : Value) (hx : a.eval x = .slice (some ad) 1 c) (hnews : ∀ j u, [u0][j]? = some u → w.cell? (ad.add j) = some u) (h1 : ∀ u ∈ [u0], u.oneCell' = true)
    (h63 : n + 1 ≤ maxLen) (hbytes : (n + 1) * bytes ≤ 140737488355328)
    (h : ∀ g' cap' cur' w' pre, AppR w w' vo.ownBlock e 1 n 1 pre [u0] g' cap' cur' → (∀ j, j < n → pre j = some (f j)) → wpList P ops Q rest (a.put o.dst (.slice (some ⟨g', 0, none⟩) (n + 1) cap')) w') : wpList P ops Q (o :: rest) a w := by
  rcases hc with ⟨rfl, rfl⟩ | ⟨g, cap, cur, rfl, hg, hn, hcap, hfit, hf⟩
  · exact wpList_append_rnil hgd s x t ho e i z 1 bytes ht hi hz hsize hby hzs (by decide) hs ad 1 c [u0] hx rfl hnews h1 (by decide) (by omega) (by omega) fun g' cap' cur' w' hA => h g' cap' cur' w' _ hA (fun j hj => by omega)
  · exact wpList_append_r hgd s x t ho e i z 1 bytes ht hi hz hsize hby hzs (by decide) g n cap cur hs hg hcap hfit hn ad 1 c [u0] hx rfl hnews h1 h63 hbytes fun g' cap' cur' w' hA => h g' cap' cur' w' _ hA hf
theorem case_al {w : World} {vo : Value} {n e : Nat} {sp : Nat} {f : Nat → Value} (o : Obj) (h : (vo = .slice none 0 0 ∧ n = 0) ∨ ∃ g cap cur, vo = .slice (some ⟨g, 0, none⟩) n cap ∧ w.heap[g]? = some (.cells cur e (0, 0)) ∧ g < w.heap.size ∧ g ≠ sp ∧ n ≤ cap ∧ cap ≤ maxLen ∧ cap * 1 ≤ cur.size ∧ ∀ j, j < n → cur[j]? = some (f j)) :
    (vo = .slice none 0 0 ∧ n = 0) ∨ ∃ g cap cur, vo = .slice (some ⟨g, 0, none⟩) n cap ∧ (w.alloc o).heap[g]? = some (.cells cur e (0, 0)) ∧ n ≤ cap ∧ cap ≤ maxLen ∧ cap * 1 ≤ cur.size ∧ ∀ j, j < n → cur[j]? = some (f j) := by
  rcases h with h | ⟨g, cap, cur, h1, h2, h3, h4, h5⟩
  · exact .inl h
  · exact .inr ⟨g, cap, cur, h1, (Below.heap_alloc _ _ _ h3).trans h2, h5⟩
theorem case_ne {w : World} {vo : Value} {n e : Nat} {sp : Nat} {f : Nat → Value} (h : (vo = .slice none 0 0 ∧ n = 0) ∨ ∃ g cap cur, vo = .slice (some ⟨g, 0, none⟩) n cap ∧ w.heap[g]? = some (.cells cur e (0, 0)) ∧ g < w.heap.size ∧ g ≠ sp ∧ n ≤ cap ∧ cap ≤ maxLen ∧ cap * 1 ≤ cur.size ∧ ∀ j, j < n → cur[j]? = some (f j)) : vo.ownBlock ≠ some sp := by
  rcases h with ⟨rfl, _⟩ | ⟨g, cap, cur, rfl, _, _, h4, _⟩
  · intro e; cases e
  · intro e; cases e; exact h4 rfl
structure SS (w0 : World) (F : Nat → Prop) (w : World) (sp : Nat) (ns : List RN) (op : List Int) : Prop where
  mtd : Mut F w0 w
  rep : SRep w (grow F w0 w) sp ns op
theorem SRep.mono {G : Nat → Prop} (h : SRep w F sp ns op) (hG : ∀ k, F k → G k) (hlt : ∀ k, G k → k < w.heap.size) : SRep w G sp ns op := by
  obtain ⟨g, cap, cur, vk, vo, md, hd, qk, h⟩ := h
  exact ⟨g, cap, cur, vk, vo, md, hd, qk, h.keep (fun _ _ => rfl) hG hlt⟩
theorem SRep.lt (h : SRep w F sp ns op) : ∀ k, F k → k < w.heap.size := by
  obtain ⟨g, cap, cur, vk, vo, md, hd, qk, h⟩ := h
  exact h.lt
theorem SRep.start (h : SRep w F sp ns op) : SS w F w sp ns op := ⟨Mut.refl _ _, h.mono (fun _ h => .inl h) (fun k hk => hk.elim (h.lt k) (fun h2 => h2.2))⟩
namespace SS
variable {w0 : World} {ns' : List RN} {op' : List Int}
theorem next (h : SS w0 F w sp ns op) (hm : Mut (grow F w0 w) w w') (hr : SRep w' (grow (grow F w0 w) w w') sp ns' op') : SS w0 F w' sp ns' op' :=
  ⟨h.mtd.trans hm, by rw [grow_trans h.mtd.size hm.size] at hr; exact hr⟩
theorem bel (h : SS w0 F w sp ns op) (hb : Bel w w') : SS w0 F w' sp ns op :=
  h.next (Mut.of_bel hb) ((h.rep.bel hb).mono (fun _ hk => .inl hk) (fun k hk => hk.elim (fun h2 => Nat.lt_of_lt_of_le (h.rep.lt k h2) hb.size) (fun h2 => h2.2)))
end SS
theorem SRep.bounds (h : SRep w F sp ns op) : ns.length ≤ 50 ∧ op.length ≤ ns.length ∧ (0 < ns.length → (max (topR op) 0).toNat < ns.length) ∧ ∀ i, i < ns.length → (ns.getD i rn0).kids.length ≤ ns.length := by
  obtain ⟨g, cap, cur, vk, vo, md, hd, qk, h⟩ := h
  refine ⟨h.small, h.osmall, fun h0 => ?_, h.ksmall⟩
  unfold topR
  split
  · have e : (max (-1 : Int) 0).toNat = 0 := by decide
    rw [e]; exact h0
  · have hl : op.length - 1 < op.length := by omega
    have hm : op.getD (op.length - 1) 0 ∈ op := by
      rw [List.getD_eq_getElem?_getD, List.getElem?_eq_getElem hl]; exact List.getElem_mem hl
    have := h.opv _ hm
    omega
def rIns (ns : List RN) (op : List Int) (name : Str) : List RN := rSet (ns ++ [rNew name]) (max (topR op) 0).toNat ns.length
theorem rIns_len (ns : List RN) (op : List Int) (name : Str) : (rIns ns op name).length = ns.length + 1 := by unfold rIns; rw [rSet_len]; simp
/-- Open grows by one: as the walk meets it. -/
theorem rOpen (h : SRep w F sp ns op) {i : Nat} (hi : i < ns.length) (hol : op.length + 1 ≤ ns.length) : ∃ vo A c, w.cell? ⟨sp, 1, none⟩ = some vo ∧ vo = .slice A op.length c ∧ w.frozen? ⟨sp, 1, none⟩ = false ∧ sp < w.heap.size ∧
    ((vo = .slice none 0 0 ∧ op.length = 0) ∨ ∃ g cap cur, vo = .slice (some ⟨g, 0, none⟩) op.length cap ∧ w.heap[g]? = some (.cells cur 3 (0, 0)) ∧ g < w.heap.size ∧ g ≠ sp ∧ op.length ≤ cap ∧ cap ≤ maxLen ∧ cap * 1 ≤ cur.size ∧ ∀ j, j < op.length → cur[j]? = some (.int .i64 (op.getD j 0))) ∧
    ∀ W w2 g' cap' cur' pre, Bel w W → AppR W w2 vo.ownBlock 3 1 op.length 1 pre [.int .i64 (i : Int)] g' cap' cur' → (∀ j, j < op.length → pre j = some (.int .i64 (op.getD j 0))) →
      Mut F w (w2.setCell ⟨sp, 1, none⟩ (.slice (some ⟨g', 0, none⟩) (op.length + 1) cap')) ∧ SRep (w2.setCell ⟨sp, 1, none⟩ (.slice (some ⟨g', 0, none⟩) (op.length + 1) cap')) (grow F w (w2.setCell ⟨sp, 1, none⟩ (.slice (some ⟨g', 0, none⟩) (op.length + 1) cap'))) sp ns (op ++ [(i : Int)]) := by
  obtain ⟨g, cap, cur, vk, vo, md, hd, qk, hv⟩ := h
  have hsh : ∃ A c, vo = .slice A op.length c := by
    rcases hv.opn with ⟨rfl, rfl⟩ | ⟨g0, c0, cu0, rfl, _⟩
    · exact ⟨_, _, rfl⟩
    · exact ⟨_, _, rfl⟩
  obtain ⟨A, c, e⟩ := hsh
  refine ⟨vo, A, c, hv.c 1, e, hv.f 1, hv.lt sp hv.Fs, ?_, fun W w2 g' cap' cur' pre hb hA hp => rf_opened hv hb hA hp hi hol⟩
  rcases hv.opn with ⟨h1, h2⟩ | ⟨g0, c0, cu0, h1, hF0, hb0, r1, r2, r3, r4⟩
  · exact .inl ⟨h1, by rw [h2]; rfl⟩
  · exact .inr ⟨g0, c0, cu0, h1, hb0, hv.lt _ hF0, blk_ne hb0 hv.blk (by decide), r1, r2, by omega, r4⟩
set_option maxRecDepth 100000 in
set_option maxHeartbeats 4000000 in
theorem rInsert_c (h : SRep w F sp ns op) (name : Str) (hnm : name ≠ n_template) (hl : ns.length < 50) (h0 : 0 < ns.length) :
    Calls Tryz.prog 110 #[.pointer (some ⟨sp, 0, none⟩), tokV (St.impTok name), .int .i64 0] w fun e w' => e = .returned (.int .i64 ns.length) ∧ SS w F w' sp (rIns ns op name) (op ++ [(ns.length : Int)]) := by
  obtain ⟨i0, hinf, hz0, hz1, hz2⟩ := info_parts infoInt
  obtain ⟨hb1, hb2, hb3, hb4⟩ := h.bounds
  have hp := hb3 h0
  have hs0 := h.start.bel (bel_alloc w (tokO (St.impTok name)))
  have HA := Lib.hid (rAdd_c hs0.rep name hnm hl)
  have HH := Lib.hid (fun W (k : SRep W (grow F w W) sp (ns ++ [rNew name]) op) => rHere_c k)
  have hgetn : (ns ++ [rNew name]).getD ns.length rn0 = rNew name := by simp [List.getD]
  have hgetp : (ns ++ [rNew name]).getD (max (topR op) 0).toNat rn0 = ns.getD (max (topR op) 0).toNat rn0 := by simp [List.getD, List.getElem?_append_left hp]
  have hlen : (ns ++ [rNew name]).length = ns.length + 1 := by simp
  have HP := Lib.hid (fun W (k : SRep W (grow F w W) sp (ns ++ [rNew name]) op) => rPut_c k (max (topR op) 0).toNat ns.length hp (by omega) (by rw [hgetn]) (by rw [hgetp, hlen]; have := hb4 _ hp; omega))
  have HO := Lib.hid (fun W (k : SRep W (grow F w W) sp (rIns ns op name) op) => rOpen k (i := ns.length) (by rw [rIns_len]; omega) (by rw [rIns_len]; omega))
  have htop : ((max (topR op) 0).toNat : Int) = max (topR op) 0 := by omega
  have hrw : rSet (ns ++ [rNew name]) (max (topR op) 0).toNat ns.length = rIns ns op name := rfl
  rw [htop, hrw] at HP
  have hop : ∃ vo A c, w.cell? ⟨sp, 1, none⟩ = some vo ∧ vo = .slice A op.length c := by
    obtain ⟨g, cap, cur, vk, vo, md, hd, qk, hv⟩ := h
    rcases hv.opn with ⟨h1, h2⟩ | ⟨g0, c0, cu0, h1, _⟩
    · exact ⟨vo, none, 0, hv.c 1, by rw [h1, h2]; rfl⟩
    · exact ⟨vo, _, _, hv.c 1, h1⟩
  obtain ⟨vo0, A0, cp0, cv0, rfl⟩ := hop
  have spl : sp < w.heap.size := by
    obtain ⟨g, cap, cur, vk, vo, md, hd, qk, hv⟩ := h
    exact hv.lt sp hv.Fs
  have HS := Lib.hid hs0
  clear hs0 h htop hrw hgetn hgetp hlen hb4 hb3
  generalize max (topR op) 0 = tp at *
  go_enter Tryz.func110, Tryz.ntmps110
  have hone : ∀ u ∈ [Value.int .i64 (ns.length : Int)], u.oneCell' = true := by intro u hu; simp at hu; subst hu; rfl
  go_wp2_with (first | (go_at_call 163; refine HA.out.mono ?_; rintro e w1 ⟨rfl, h1, h2⟩; have k1 := HS.out.next h1 h2; clear h1 h2) | (go_at_call 165; refine (HH.out _ k1.rep).mono ?_; rintro e w2 ⟨rfl, hb5⟩; have k2 := k1.bel hb5) | (go_at_call 164; refine (HP.out _ k2.rep).mono ?_; rintro e w3 ⟨rfl, h1, h2⟩; have k3 := k2.next h1 h2; clear h1 h2; obtain ⟨vo, A1, c1, cv, rfl, fv, sl, hcase, hfin⟩ := HO.out _ k3.rep; have HF := Lib.hid hfin; have HC := Lib.hid hcase; clear hfin hcase) | (at_builtin; refine wpList_append_io rfl (.tmp 39) (.tmp 41) 29 rfl 3 i0 (.int .i64 0) 8 Tryz.underlying29 hinf hz0 hz1 hz2 rfl _ op.length (fun j => .int .i64 (op.getD j 0)) rfl (case_al _ HC.out) ⟨w3.heap.size, 0, none⟩ 1 (.int .i64 (ns.length : Int)) rfl (World.news_of_block (heap_alloc_new w3 (.cells #[.int .i64 (ns.length : Int)] 3 (0, 0)))) hone (by unfold maxLen; omega) (by omega) ?_; intro g' cap' cur' w4 pre hApp hpre; have HFI := Lib.hid (HF.out _ _ _ _ _ _ (bel_alloc w3 _) hApp hpre); have hbk := hApp.block sp (by simp; omega) (case_ne HC.out); have cv4 := (World.cell?_of_block (a := ⟨sp, 1, none⟩) hbk).trans (((bel_alloc w3 _).cell (p := ⟨sp, 1, none⟩) sl).trans cv); have fv4 := (World.frozen?_of_block (a := ⟨sp, 1, none⟩) hbk).trans (((bel_alloc w3 _).frozen (p := ⟨sp, 1, none⟩) sl).trans fv); clear hApp hpre hbk))
  go_ret
  exact ⟨rfl, k3.next HFI.out.1 HFI.out.2⟩
end Go.Proofs.YtgaebaokcjhcdaaGreatDoor

/- The document's builder (S): Imply, Pop, New; fields. -/
set_option linter.unusedVariables false
set_option linter.unusedSimpArgs false
namespace Go.Proofs.YtgaebaokcjhcdaaGreatDoor
open Go.RowKit Lz
variable {w w' : World} {F : Nat → Prop} {sp : Nat} {ns : List RN} {op : List Int}

set_option maxRecDepth 100000 in
set_option maxHeartbeats 1000000 in
theorem rImply_c (h : SRep w F sp ns op) (name : Str) (hnm : name ≠ n_template) (hl : ns.length < 50) (h0 : 0 < ns.length) :
    Calls Tryz.prog 39 #[.pointer (some ⟨sp, 0, none⟩), .string name] w fun e w' => e = .returned (.int .i64 ns.length) ∧ SS w F w' sp (rIns ns op name) (op ++ [(ns.length : Int)]) := by
  have HI := Lib.hid (rInsert_c h name hnm hl h0)
  go_enter Tryz.func39, Tryz.ntmps39
  go_wp2_with (go_at_call 110; refine HI.out.mono ?_; rintro e w1 ⟨rfl, h1⟩)
  go_ret
  exact ⟨rfl, h1⟩
theorem SRep.setC (h : SRep w F sp ns op) (j : Nat) (u : Value) (hj : ∀ g n cap vo md hd qk, ∃ md' hd' qk', (sCells g n cap vo md hd qk).setIfInBounds j u = sCells g n cap vo md' hd' qk') : Mut F w (w.setCell ⟨sp, j, none⟩ u) ∧ SRep (w.setCell ⟨sp, j, none⟩ u) (grow F w (w.setCell ⟨sp, j, none⟩ u)) sp ns op := by
  obtain ⟨g, cap, cur, vk, vo, md, hd, qk, h⟩ := h
  obtain ⟨md', hd', qk', e⟩ := hj g ns.length cap vo md hd qk
  have hset : ∀ k, k ≠ sp → (w.setCell ⟨sp, j, none⟩ u).heap[k]? = w.heap[k]? := fun k hk => Below.heap_setCell _ _ _ _ hk
  refine ⟨(Mut.refl F w).setCell (.inl h.Fs) _, g, cap, cur, vk, vo, md', hd', qk', ?_⟩
  refine { h with blk := ?_, Fs := .inl h.Fs, Fg := .inl h.Fg, row := (hset g (fun e => blk_ne h.blk h.row (by decide) e.symm)).trans h.row, kids := fun i hi => (h.kids i hi).keepT (fun k cs hF hb => hset k (blk_ne hb h.blk (by decide))) (fun _ h => .inl h), opn := h.opn.keepT (fun k cs hF hb => hset k (blk_ne hb h.blk (by decide))) (fun _ h => .inl h), lt := ?_ }
  · rw [heap_setCell_same _ _ _ _ _ _ h.blk, e]
  · rintro k (hk | hk)
    · simp; exact h.lt k hk
    · exact hk.2
theorem SRep.fields (h : SRep w F sp ns op) : (∀ j, w.frozen? ⟨sp, j, none⟩ = false) ∧ ∃ m d q, w.cell? ⟨sp, 3, none⟩ = some (.int .i64 m) ∧ w.cell? ⟨sp, 6, none⟩ = some (.int .i64 d) ∧ w.cell? ⟨sp, 8, none⟩ = some (.bool q) := by
  obtain ⟨g, cap, cur, vk, vo, md, hd, qk, h⟩ := h
  exact ⟨h.f, md, hd, qk, h.c 3, h.c 6, h.c 8⟩
def docR : RN := ⟨1, n_empty, 0, -1, []⟩
set_option maxRecDepth 100000 in
set_option maxHeartbeats 1000000 in
theorem rNew_c (w : World) :
    Calls Tryz.prog 36 #[] w fun e w' => ∃ sp, e = .returned (.pointer (some ⟨sp, 0, none⟩)) ∧ Bel w w' ∧ SRep w' (fun k => w.heap.size ≤ k ∧ k < w'.heap.size) sp [docR] [] := by
  go_enter Tryz.func36, Tryz.ntmps36
  go_wp2
  go_ret
  have hsz : ∀ o o', ((w.alloc o).alloc o').heap.size = w.heap.size + 2 := by intro o o'; simp
  refine ⟨w.heap.size + 1, rfl, bel_al (bel_alloc _ _), w.heap.size, 1, _, fun _ => .slice none 0 0, .slice none 0 0, 0, -1, false, { blk := heap_alloc2_new w _ _, Fs := by rw [hsz]; omega, Fg := by rw [hsz]; omega, row := heap_alloc2_old w _ _, le := Nat.le_refl _, capm := by unfold maxLen; decide, fit := by decide, col := ?_, kids := ?_, opn := .inl ⟨rfl, rfl⟩, apart := ?_, lt := fun k hk => hk.2, small := by decide, ksmall := ?_, osmall := by decide, par := ?_, knd := ?_, opv := ?_, kpos := ?_ }⟩
  · intro i hi
    obtain rfl : i = 0 := by simpa using hi
    exact ⟨rfl, rfl, rfl, rfl, rfl⟩
  · intro i hi
    obtain rfl : i = 0 := by simpa using hi
    exact .inl ⟨rfl, rfl⟩
  · intro i b hi h1; cases h1
  · intro i hi
    obtain rfl : i = 0 := by simpa using hi
    exact Nat.zero_le _
  · intro i hi
    obtain rfl : i = 0 := by simpa using hi
    exact ⟨by show (-1 : Int) < 0; decide, by show (-1 : Int) ≤ -1; decide⟩
  · intro i hi
    obtain rfl : i = 0 := by simpa using hi
    exact ⟨by show (1 : Int) ≠ 6; decide, by show n_empty ≠ n_template; decide⟩
  · intro x hx; cases hx
  · intro i hi x hx
    obtain rfl : i = 0 := by simpa using hi
    cases hx
set_option maxRecDepth 100000 in
set_option maxHeartbeats 2000000 in
theorem rPop_c (h : SRep w F sp ns op) (xs : List Int) (y : Int) (hop : op = xs ++ [y]) :
    Calls Tryz.prog 42 #[.pointer (some ⟨sp, 0, none⟩)] w fun e w' => e = .returned (.tuple #[]) ∧ Mut F w w' ∧ SRep w' (grow F w w') sp ns xs := by
  have hlen : op.length = xs.length + 1 := by rw [hop]; simp
  obtain ⟨g, cap, cur, vk, vo, md, hd, qk, hv⟩ := h
  have hro := hv.opn
  rcases hro with ⟨e1, e2⟩ | ⟨gk, capk, curk, rfl, hFk, hbk, r1, r2, r3, r4⟩
  · rw [e2] at hlen; simp at hlen
  · have c1 : w.cell? ⟨sp, 1, none⟩ = some (.slice (some ⟨gk, 0, none⟩) (xs.length + 1) capk) := by rw [← hlen]; exact hv.c 1
    have f1 := hv.f 1
    have hsm := hv.small; have hos := hv.osmall
    have hxc : xs.length ≤ capk := by omega
    have hx2 : xs.length ≤ 50 := by omega
    have hfin : Mut F w (w.drew.setCell ⟨sp, 1, none⟩ (.slice (some ⟨gk, 0, none⟩) xs.length capk)) ∧ SRep (w.drew.setCell ⟨sp, 1, none⟩ (.slice (some ⟨gk, 0, none⟩) xs.length capk)) (grow F w (w.drew.setCell ⟨sp, 1, none⟩ (.slice (some ⟨gk, 0, none⟩) xs.length capk))) sp ns xs := by
      have hset : ∀ k, k ≠ sp → (w.drew.setCell ⟨sp, 1, none⟩ (.slice (some ⟨gk, 0, none⟩) xs.length capk)).heap[k]? = w.heap[k]? := fun k hk => Below.heap_setCell _ _ _ _ hk
      refine ⟨((Mut.refl F w).drew).setCell (.inl hv.Fs) _, g, cap, cur, vk, .slice (some ⟨gk, 0, none⟩) xs.length capk, md, hd, qk, ?_⟩
      refine { hv with blk := ?_, Fs := .inl hv.Fs, Fg := .inl hv.Fg, row := (hset g (fun e => blk_ne hv.blk hv.row (by decide) e.symm)).trans hv.row, kids := fun i hi => (hv.kids i hi).keepT (fun k cs hF hb => hset k (blk_ne hb hv.blk (by decide))) (fun _ h => .inl h), opn := ?_, apart := ?_, lt := ?_, osmall := by omega, opv := fun x hx => hv.opv x (by rw [hop]; simp [hx]) }
      · have hb : w.drew.heap[sp]? = some (.cells (sCells g ns.length cap (.slice (some ⟨gk, 0, none⟩) op.length capk) md hd qk) 75 (0, 0)) := hv.blk
        rw [heap_setCell_same _ _ _ _ _ _ hb]; rfl
      · refine .inr ⟨gk, capk, curk, rfl, .inl hFk, (hset gk (blk_ne hbk hv.blk (by decide))).trans hbk, hxc, r2, r3, fun i hi => ?_⟩
        rw [r4 i (by omega), hop, List.getD_eq_getElem?_getD, List.getD_eq_getElem?_getD, List.getElem?_append_left hi]
      · intro i b hi h1 h2
        exact hv.apart i b hi h1 h2
      · rintro k (hk | hk)
        · simp; exact hv.lt k hk
        · exact hk.2
    have HF := Lib.hid hfin
    have b1 : IntKind.i64.wrap ((xs.length : Int) + 1 - 1) = (xs.length : Int) := by rw [show (xs.length : Int) + 1 - 1 = (xs.length : Int) from by omega]; exact IntWalk.i64_in _ (by omega)
    have b2 : IntKind.i64.wrap (xs.length : Int) = (xs.length : Int) := IntWalk.i64_in _ (by omega)
    clear hfin hv hop hlen r4 hos r1
    go_enter Tryz.func42, Tryz.ntmps42
    go_wp2
    refine wp_region_still_tail 12 (by kernel_rfl) (by kernel_rfl) ?_
    show wpStill _ _ (w.drew) (fun a' => wpList _ _ _ _ a' (w.drew)) _ _
    simp only [List.take_succ_cons, List.take_zero, List.drop_succ_cons, List.drop_zero]
    repeat still_step
    refine wpStill_nil ?_
    go_wp2
    go_end0
    exact ⟨rfl, HF.out⟩
end Go.Proofs.YtgaebaokcjhcdaaGreatDoor

/- The law's opened: a builder in a body, and the document's. -/
set_option linter.unusedVariables false
set_option linter.unusedSimpArgs false
namespace Go.Proofs.YtgaebaokcjhcdaaGreatDoor
open Go.RowKit Lz
variable {w0 w w' : World} {b a st l sp n : Nat} {s s' : St} {ns ns' : List RN} {op op' : List Int}

/-- The builder, and the document's, side by side, all of it new since w0. -/
def Two (w0 w : World) (b a st l : Nat) (s : St) (sp : Nat) (ns : List RN) (op : List Int) : Prop :=
  Bel w0 w ∧ ∃ Fb Fs, BR w Fb b a st l s ∧ SRep w Fs sp ns op ∧ (∀ k, Fb k → w0.heap.size ≤ k ∧ k < w.heap.size) ∧ (∀ k, Fs k → w0.heap.size ≤ k ∧ k < w.heap.size) ∧ ∀ k, Fb k → ¬ Fs k
theorem bel_mut {w0 w w' : World} {F : Nat → Prop} (h : Bel w0 w) (m : Mut F w w') (hF : ∀ k, F k → w0.heap.size ≤ k) : Bel w0 w' :=
  ⟨m.os.trans h.os, m.tape.trans h.tape, m.output.trans h.output, Nat.le_trans h.size m.size, fun k hk => (m.block k (Nat.lt_of_lt_of_le hk h.size) (fun hf => by have := hF k hf; omega)).trans (h.block k hk)⟩
theorem SRep.keep {w w' : World} {F G : Nat → Prop} (h : SRep w F sp ns op) (hk : ∀ k, F k → w'.heap[k]? = w.heap[k]?) (hG : ∀ k, F k → G k) (hlt : ∀ k, G k → k < w'.heap.size) : SRep w' G sp ns op := by
  obtain ⟨g, cap, cur, vk, vo, md, hd, qk, h⟩ := h
  exact ⟨g, cap, cur, vk, vo, md, hd, qk, h.keep hk hG hlt⟩
theorem BR.away {w w' : World} {Fb G : Nat → Prop} (h : BR w Fb b a st l s) (hlt : ∀ k, Fb k → k < w.heap.size) (hm : Mut G w w') (hd : ∀ k, G k → ¬ Fb k) (h6 : ∀ k, G k → 6 ≤ k) (ho : ∀ k, G k → w0.heap.size ≤ k) (hold : Old w0 (fun _ => False)) (hb : Bel w0 w) (h0 : ∀ k, Fb k → w0.heap.size ≤ k) : BR w' Fb b a st l s := by
  obtain ⟨Fa, Fs, Fl, Fbb, vm, vk, hp, hF⟩ := h
  have k1 : ∀ k, Fb k → w'.heap[k]? = w.heap[k]? := fun k hk => hm.block k (hlt k hk) (fun hg => hd k hg hk)
  have hs := hm.size
  refine ⟨Fa, Fs, Fl, Fbb, vm, vk, { hp with blk := (k1 b (hF b (.inr (.inr (.inr hp.Fbb))))).trans hp.blk, modes := hp.modes.keep (fun k hk _ => k1 k (hF k (.inr (.inr (.inr hk))))) (fun _ h => h), arena := hp.arena.keep (fun k hk => k1 k (hF k (.inl hk))) (fun _ h => h) (fun k hk => Nat.lt_of_lt_of_le (hp.arena.lt k hk) hs), stack := hp.stack.keep (fun k hk => k1 k (hF k (.inr (.inl hk)))) (fun _ h => h) (fun k hk => Nat.lt_of_lt_of_le (hp.stack.lt k hk) hs), list := hp.list.keep (fun k hk => k1 k (hF k (.inr (.inr (.inl hk))))) (fun _ h => h) (fun k hk => Nat.lt_of_lt_of_le (hp.list.lt k hk) hs), blt := fun k hk => Nat.lt_of_lt_of_le (hp.blt k hk) hs, glob := hp.glob.mut hm h6, old := ?_ }, hF⟩
  obtain ⟨W0, hl, h1, h2, h3⟩ := hold
  have hbs := hb.size
  exact ⟨W0, hl, by omega, fun k hk => (hm.block k (by omega) (fun hg => by have := ho k hg; omega)).trans ((hb.block k (by omega)).trans (h2 k hk)), fun k hk => by have := h0 k (hF k hk); omega⟩
namespace Two
theorem bel (h : Two w0 w b a st l s sp ns op) (hb : Bel w w') : Two w0 w' b a st l s sp ns op := by
  obtain ⟨h0, Fb, Fs, hB, hS, h1, h2, h3⟩ := h
  have := hb.size
  exact ⟨bel_tr h0 hb, Fb, Fs, hB.bel hb, hS.bel hb, fun k hk => ⟨(h1 k hk).1, by have := (h1 k hk).2; omega⟩, fun k hk => ⟨(h2 k hk).1, by have := (h2 k hk).2; omega⟩, h3⟩
theorem b_ (h : Two w0 w b a st l s sp ns op) : ∃ F, BS w F w b a st l s ∧ ∀ w' s', BS w F w' b a st l s' → Two w0 w' b a st l s' sp ns op := by
  obtain ⟨h0, Fb, Fs, hB, hS, h1, h2, h3⟩ := h
  refine ⟨Fb, hB.start (fun k hk => (h1 k hk).2), fun w' s' k => ?_⟩
  have hm := k.mtd.size
  refine ⟨bel_mut h0 k.mtd (fun j hj => (h1 j hj).1), grow Fb w w', Fs, k.rep, hS.keep (fun j hj => k.mtd.block j (h2 j hj).2 (fun hb => h3 j hb hj)) (fun _ h => h) (fun j hj => by have := (h2 j hj).2; omega), ?_, fun j hj => ⟨(h2 j hj).1, by have := (h2 j hj).2; omega⟩, ?_⟩
  · rintro j (hj | hj)
    · have := h1 j hj; omega
    · have := h0.size; omega
  · rintro j (hj | hj) hs
    · exact h3 j hj hs
    · have := h2 j hs; omega
theorem s_ (h : Two w0 w b a st l s sp ns op) (hold : Old w0 (fun _ => False)) (h6 : 6 ≤ w0.heap.size) : ∃ F, SRep w F sp ns op ∧ ∀ w' ns' op', Mut F w w' → SRep w' (grow F w w') sp ns' op' → Two w0 w' b a st l s sp ns' op' := by
  obtain ⟨h0, Fb, Fs, hB, hS, h1, h2, h3⟩ := h
  refine ⟨Fs, hS, fun w' ns' op' m r => ?_⟩
  have hm := m.size
  have hbw := h0.size
  refine ⟨bel_mut h0 m (fun j hj => (h2 j hj).1), Fb, grow Fs w w', hB.away (fun k hk => (h1 k hk).2) m (fun k hk hf => h3 k hf hk) (fun k hk => by have := h2 k hk; omega) (fun k hk => (h2 k hk).1) hold h0 (fun k hk => (h1 k hk).1), r, fun j hj => ⟨(h1 j hj).1, by have := (h1 j hj).2; omega⟩, ?_, ?_⟩
  · rintro j (hj | hj)
    · have := h2 j hj; omega
    · omega
  · rintro j hj (hs | hs)
    · exact h3 j hj hs
    · have := h1 j hj; omega
end Two
theorem two_start {w w1 w2 : World} (hb1 : Bel w w1) (hB : BR w1 (fun k => w.heap.size ≤ k ∧ k < w1.heap.size) b a st l s) (hb2 : Bel w1 w2) (hS : SRep w2 (fun k => w1.heap.size ≤ k ∧ k < w2.heap.size) sp ns op) : Two w w2 b a st l s sp ns op := by
  have h1 := hb1.size; have h2 := hb2.size
  exact ⟨bel_tr hb1 hb2, _, _, hB.bel hb2, hS, fun k hk => ⟨hk.1, by have := hk.2; omega⟩, fun k hk => ⟨by have := hk.1; omega, hk.2⟩, fun k hk hs => by have := hk.2; have := hs.1; omega⟩
def openedSt (q : Bool) : St := { (St.pop { (St.imply (St.imply { newSt with quirks := q } n_html) n_head) with head := (St.imply { newSt with quirks := q } n_html).insI }).imply n_body with mode := 6 }
theorem fine_new (q : Bool) : Fine 1 { newSt with quirks := q } := by
  refine ⟨rfl, Nat.le_refl _, fun k => ?_, fun i => ?_, fun i => ?_, fun i => ?_⟩
  · show (([] : List OpEl).getD k {}).name.size < _; simp; decide
  all_goals (
    show _
    have e : ∀ i, nodeAt newNodes i = if i = 0 then docNd else nd0 := fun i => nodeAt_one docNd i
    simp only [newSt, e]
    split)
  all_goals (first | decide | (show _ ≤ _; decide) | (intro h; exact absurd h (by decide)))
set_option maxRecDepth 100000 in
set_option maxHeartbeats 8000000 in
theorem opened_c (w : World) (hg : Glob w) (hL0 : Laid0 w) (q : Bool) :
    Calls Tryz.prog 11 #[.bool q] w fun e w' => ∃ b a st l sp, e = .returned (.tuple #[.pointer (some ⟨b, 0, none⟩), .pointer (some ⟨sp, 0, none⟩)]) ∧ ∃ ns op, Two w w' b a st l (openedSt q) sp ns op := by
  have hold : Old w (fun _ => False) := ⟨w, hL0, Nat.le_refl _, fun _ _ => rfl, fun k hk => hk.elim⟩
  have hg6 := hg.size
  have HG := Lib.hid hg; have HL := Lib.hid hL0; have HO := Lib.hid hold; have H6 := Lib.hid hg6
  clear hg hL0 hold hg6
  go_enter Tryz.func11, Tryz.ntmps11
  go_wp2_with fail
  refine (bNew_c _ HG.out HL.out).mono ?_
  rintro e w1 ⟨b, a, st, l, rfl, hb1, hB1⟩
  go_wp2_with fail
  refine (rNew_c _).mono ?_
  rintro e w2 ⟨sp, rfl, hb2, hS2⟩
  have T := two_start hb1 hB1 hb2 hS2
  clear hb1 hB1 hb2 hS2
  have hf : Fine 1 newSt := fine_new false
  go_wp2_with fail
  obtain ⟨Fb, kb, nb⟩ := T.b_
  refine (kb.setQuirks_ q).mono ?_
  rintro e w3 ⟨rfl, h3⟩
  replace T := nb _ _ h3
  replace hf := hf.quirks q
  clear h3 kb nb
  obtain ⟨Fs, ks, nx⟩ := T.s_ HO.out H6.out
  obtain ⟨fz, m3, m6, m8, g3, g6, g8⟩ := ks.fields
  have fz8 := fz 8
  have hset := ks.setC 8 (.bool q) (fun _ _ _ _ _ _ _ => ⟨_, _, _, rfl⟩)
  replace T := nx _ _ _ hset.1 hset.2
  clear hset nx ks fz
  go_wp2_with fail
  obtain ⟨Fb, kb, nb⟩ := T.b_
  refine (kb.imply_ hf.foster n_html (hf.room2 (by decide)) (by decide)).mono ?_
  rintro e w4 ⟨rfl, h3⟩
  replace T := nb _ _ h3
  replace hf := hf.imply n_html (by decide) (by decide)
  clear h3 kb nb
  go_wp2_with fail
  obtain ⟨Fs, ks, nx⟩ := T.s_ HO.out H6.out
  refine (rImply_c ks n_html (by decide) (by simp only [rIns_len, List.length_cons, List.length_nil]; omega) (by simp only [rIns_len, List.length_cons, List.length_nil]; omega)).mono ?_
  rintro e w5 ⟨rfl, h3⟩
  replace T := nx _ _ _ h3.mtd h3.rep
  clear h3 ks nx
  go_wp2_with fail
  obtain ⟨Fb, kb, nb⟩ := T.b_
  refine (kb.imply_ hf.foster n_head (hf.room2 (by decide)) (by decide)).mono ?_
  rintro e w6 ⟨rfl, h3⟩
  replace T := nb _ _ h3
  replace hf := hf.imply n_head (by decide) (by decide)
  clear h3 kb nb
  go_wp2_with fail
  obtain ⟨Fb, kb, nb⟩ := T.b_
  refine (kb.setHead_ _).mono ?_
  rintro e w7 ⟨rfl, h3⟩
  replace T := nb _ _ h3
  replace hf := hf.head (St.imply { newSt with quirks := q } n_html).insI
  clear h3 kb nb
  go_wp2_with fail
  obtain ⟨Fs, ks, nx⟩ := T.s_ HO.out H6.out
  refine (rImply_c ks n_head (by decide) (by simp only [rIns_len, List.length_cons, List.length_nil]; omega) (by simp only [rIns_len, List.length_cons, List.length_nil]; omega)).mono ?_
  rintro e w8 ⟨rfl, h3⟩
  replace T := nx _ _ _ h3.mtd h3.rep
  clear h3 ks nx
  obtain ⟨Fs, ks, nx⟩ := T.s_ HO.out H6.out
  obtain ⟨fz, m3, m6, m8, g3, g6, g8⟩ := ks.fields
  have fz6 := fz 6
  have hset := ks.setC 6 (.int .i64 (((rIns [docR] [] n_html).length : Nat) : Int)) (fun _ _ _ _ _ _ _ => ⟨_, _, _, rfl⟩)
  replace T := nx _ _ _ hset.1 hset.2
  clear hset nx ks fz
  go_wp2_with fail
  obtain ⟨Fb, kb, nb⟩ := T.b_
  refine (kb.stack_).mono ?_
  rintro e w8' ⟨rfl, rfl⟩
  go_wp2_with fail
  refine (kb.pop_).mono ?_
  rintro e w9 ⟨rfl, h3⟩
  replace T := nb _ _ h3
  replace hf := hf.pop
  clear h3 kb nb
  go_wp2_with fail
  obtain ⟨Fs, ks, nx⟩ := T.s_ HO.out H6.out
  refine (rPop_c ks _ _ rfl).mono ?_
  rintro e w10 ⟨rfl, h3, h4⟩
  replace T := nx _ _ _ h3 h4
  clear h3 h4 ks nx
  go_wp2_with fail
  obtain ⟨Fb, kb, nb⟩ := T.b_
  refine (kb.imply_ hf.foster n_body (hf.room2 (by decide)) (by decide)).mono ?_
  rintro e w11 ⟨rfl, h3⟩
  replace T := nb _ _ h3
  replace hf := hf.imply n_body (by decide) (by decide)
  clear h3 kb nb
  go_wp2_with fail
  obtain ⟨Fs, ks, nx⟩ := T.s_ HO.out H6.out
  refine (rImply_c ks n_body (by decide) (by simp only [rIns_len, List.length_cons, List.length_nil]; omega) (by simp only [rIns_len, List.length_cons, List.length_nil]; omega)).mono ?_
  rintro e w12 ⟨rfl, h3⟩
  replace T := nx _ _ _ h3.mtd h3.rep
  clear h3 ks nx
  go_wp2_with fail
  obtain ⟨Fb, kb, nb⟩ := T.b_
  refine (kb.set_ 6).mono ?_
  rintro e w13 ⟨rfl, h3⟩
  replace T := nb _ _ h3
  clear h3 kb nb
  obtain ⟨Fs, ks, nx⟩ := T.s_ HO.out H6.out
  obtain ⟨fz, m3, m6, m8, g3, g6, g8⟩ := ks.fields
  have fz3 := fz 3
  have hset := ks.setC 3 (.int .i64 6) (fun _ _ _ _ _ _ _ => ⟨_, _, _, rfl⟩)
  replace T := nx _ _ _ hset.1 hset.2
  clear hset nx ks fz
  go_wp2
  go_ret2
  exact ⟨b, a, st, l, sp, rfl, _, _, T⟩
end Go.Proofs.YtgaebaokcjhcdaaGreatDoor

/- The law's tokens; bodies.Step in a body; does. -/
set_option linter.unusedVariables false
set_option linter.unusedSimpArgs false
namespace Go.Proofs.YtgaebaokcjhcdaaGreatDoor
open Go.RowKit Lz
variable {w0 w w' : World} {F : Nat → Prop} {b a st l n : Nat} {s s' : St}

def tStart (name : Str) : Tok := { kind := 2, name := name }
def tEnd (name : Str) : Tok := { kind := 3, name := name }
def tChars (x : Str) : Tok := { kind := 7, text := x }
set_option maxRecDepth 100000 in
theorem start_c (w : World) (name : Str) :
    Calls Tryz.prog 14 #[.string name] w fun e w' => e = .returned (tokV (tStart name)) ∧ Bel w w' := by
  go_enter Tryz.func14, Tryz.ntmps14
  go_wp2
  refine bodyPost_ret (v := tokV (tStart name)) (by simp [results, Tryz.results14, go_sem]; exact ⟨rfl, rfl, rfl, rfl, rfl, rfl, rfl, rfl⟩) rfl ⟨rfl, ?_⟩
  repeat (refine bel_set ?_ (by simp only; omega))
  exact bel_alloc _ _
set_option maxRecDepth 100000 in
theorem end_c (w : World) (name : Str) :
    Calls Tryz.prog 13 #[.string name] w fun e w' => e = .returned (tokV (tEnd name)) ∧ Bel w w' := by
  go_enter Tryz.func13, Tryz.ntmps13
  go_wp2
  refine bodyPost_ret (v := tokV (tEnd name)) (by simp [results, Tryz.results13, go_sem]; exact ⟨rfl, rfl, rfl, rfl, rfl, rfl, rfl, rfl⟩) rfl ⟨rfl, ?_⟩
  repeat (refine bel_set ?_ (by simp only; omega))
  exact bel_alloc _ _
set_option maxRecDepth 100000 in
theorem chars_c (w : World) (name : Str) :
    Calls Tryz.prog 15 #[.string name] w fun e w' => e = .returned (tokV (tChars name)) ∧ Bel w w' := by
  go_enter Tryz.func15, Tryz.ntmps15
  go_wp2
  refine bodyPost_ret (v := tokV (tChars name)) (by simp [results, Tryz.results15, go_sem]; exact ⟨rfl, rfl, rfl, rfl, rfl, rfl, rfl, rfl⟩) rfl ⟨rfl, ?_⟩
  repeat (refine bel_set ?_ (by simp only; omega))
  exact bel_alloc _ _

/-- What a token does in a body, told by a contract of Body that holds from whatever start. -/
def BodyDoes (b a st l : Nat) (s : St) (t : Tok) (s' : St) : Prop := ∀ w0 F w, BS w0 F w b a st l s → Calls Tryz.prog 9 #[.pointer (some ⟨b, 0, none⟩), tokV t] w fun e w' => e = .returned (.bool false) ∧ BS w0 F w' b a st l s'
def StepDoes (b a st l : Nat) (s : St) (t : Tok) (s' : St) : Prop := ∀ w0 F w, BS w0 F w b a st l s → Calls Tryz.prog 8 #[.pointer (some ⟨b, 0, none⟩), tokV t] w fun e w' => e = .returned (.bool false) ∧ BS w0 F w' b a st l s'
set_option maxRecDepth 100000 in
set_option maxHeartbeats 1000000 in
theorem step_body (t : Tok) (hm : s.mode = 6) (C : BodyDoes b a st l s t s') : StepDoes b a st l s t s' := by
  intro w0 F w h
  have h0 := h.enter (bel_alloc w (tokO t))
  have hM := h0.mode_
  rw [hm] at hM
  have HM := Lib.hid hM; have HC := Lib.hid (C _ _ _ h0)
  clear hM C hm
  go_enter Tryz.func8, Tryz.ntmps8
  go_wp2_with (first | (go_at_call 17; refine (h0.arena_).mono ?_; rintro e w' ⟨rfl, rfl⟩) | (go_at_call 22; refine HM.out.mono ?_; rintro e w' ⟨rfl, rfl⟩) | (go_at_call 9; refine HC.out.mono ?_; rintro e w1 ⟨rfl, h1⟩))
  go_ret
  exact ⟨rfl, h.sub (bel_alloc w (tokO t)) h1⟩

def tokCl (t : Tok) : List Value := [.int .i64 t.kind, .string t.name, .string t.text, .slice none 0 0, .bool t.dup, .bool t.self, .bool t.quirks, .int .i64 t.frm, .int .i64 t.to]
/-- A row of tokens at the head of block g. -/
def TokRow (w : World) (g : Nat) (ts : List Tok) : Prop := ts.length ≤ 1000 ∧ ∃ cur f, w.heap[g]? = some (.cells cur 24 f) ∧ ∀ i j, i < ts.length → j < 9 → cur[i * 9 + j]? = (tokCl (ts.getD i {}))[j]?
inductive DoAll (b a st l : Nat) : St → List Tok → St → Prop where
  | nil (s : St) : DoAll b a st l s [] s
  | cons (s s1 s' : St) (t : Tok) (ts : List Tok) : StepDoes b a st l s t s1 → DoAll b a st l s1 ts s' → DoAll b a st l s (t :: ts) s'
set_option maxRecDepth 100000 in
set_option maxHeartbeats 4000000 in
theorem does_c (h : BS w0 F w b a st l s) (g c : Nat) (ts : List Tok) (hr : TokRow w0 g ts) (hg : g < w0.heap.size) (hF : ¬ F g) (hd : DoAll b a st l s ts s') :
    Calls Tryz.prog 12 #[.pointer (some ⟨b, 0, none⟩), .slice (some ⟨g, 0, none⟩) ts.length c] w fun e w' => e = .returned (.tuple #[]) ∧ BS w0 F w' b a st l s' := by
  obtain ⟨hlen, cur, f, hb, hc⟩ := hr
  have HC := Lib.hid (fun (W : World) (k : W.heap[g]? = w0.heap[g]?) i j (hi : i < ts.length) (hj : j < 9) => (blk_cell (k.trans hb) (i * 9 + j)).trans (hc i j hi hj))
  clear hb hc
  go_enter Tryz.func12, Tryz.ntmps12
  go_wp2
  go_loopw [4, 5] (fun x _ wr => ∃ (j : Nat) (s1 : St), j ≤ ts.length ∧ x = .int .i64 j ∧ DoAll b a st l s1 (ts.drop j) s' ∧ BS w0 F wr b a st l s1) (fun x _ _ => ts.length - (intOf x).toNat)
  case atStart => exact ⟨0, s, Nat.zero_le _, rfl, hd, h⟩
  case round =>
    obtain ⟨j, s1, hj, rfl, hdo, hB⟩ := hrel
    clear h hd
    by_cases hlt : j < ts.length
    · have hdr : ts.drop j = ts.getD j {} :: ts.drop (j + 1) := by
        rw [List.getD_eq_getElem?_getD, List.getElem?_eq_getElem hlt]; exact List.drop_eq_getElem_cons hlt
      rw [hdr] at hdo
      cases hdo with
      | cons _ s2 _ _ _ hst hdo2 =>
        have hcc := HC.out wr (hB.kept hg hF) j
        have q0 := hcc 0 hlt (by decide); have q1 := hcc 1 hlt (by decide); have q2 := hcc 2 hlt (by decide); have q3 := hcc 3 hlt (by decide); have q4 := hcc 4 hlt (by decide); have q5 := hcc 5 hlt (by decide); have q6 := hcc 6 hlt (by decide); have q7 := hcc 7 hlt (by decide); have q8 := hcc 8 hlt (by decide)
        simp only [tokCl, List.getElem?_cons_succ, List.getElem?_cons_zero, Nat.add_zero] at q0 q1 q2 q3 q4 q5 q6 q7 q8
        have HS := Lib.hid (hst _ _ _ hB)
        have HD := Lib.hid hdo2
        clear hcc hst hdo2 hdr
        generalize ts.getD j {} = t at *
        go_wp2
        refine wp_loop_rounds 1 ?_
        rw [rounds_succ]
        go_wp2_with (go_at_call 8; refine HS.out.mono ?_; rintro e w1 ⟨rfl, h1⟩)
        go_roundw
        case rel => exact ⟨j + 1, s2, by omega, by go_num, HD.out, h1⟩
        case measure => simp [intOf]; omega
    · have hjl : j = ts.length := by omega
      rw [hjl, List.drop_length] at hdo
      cases hdo with
      | nil =>
        go_wp2
        go_end0
        exact ⟨rfl, hB⟩
end Go.Proofs.YtgaebaokcjhcdaaGreatDoor

/- The arena: Tree. -/
set_option linter.unusedVariables false
set_option linter.unusedSimpArgs false
namespace Go.Proofs.YtgaebaokcjhcdaaGreatDoor
open Go.RowKit Lz

def rowOf (ns : List Nd) (va vk : Nat → Value) (j : Nat) : List Value := (List.range j).flatMap fun i => ndCells (ns.getD i nd0) (va i) (vk i)
theorem rowOf_len (ns : List Nd) (va vk : Nat → Value) : ∀ j, (rowOf ns va vk j).length = j * 11
  | 0 => rfl
  | j + 1 => by
    unfold rowOf
    rw [List.range_succ, List.flatMap_append, List.length_append]
    have := rowOf_len ns va vk j
    unfold rowOf at this
    rw [this]
    simp [ndCells]; omega
theorem rowOf_succ {ns : List Nd} {va vk va' vk' : Nat → Value} {j : Nat} (ha : ∀ i, i < j → va' i = va i) (hk : ∀ i, i < j → vk' i = vk i) : rowOf ns va' vk' (j + 1) = rowOf ns va vk j ++ ndCells (ns.getD j nd0) (va' j) (vk' j) := by
  unfold rowOf
  rw [List.range_succ, List.flatMap_append]
  have e : (List.range j).flatMap (fun i => ndCells (ns.getD i nd0) (va' i) (vk' i)) = (List.range j).flatMap (fun i => ndCells (ns.getD i nd0) (va i) (vk i)) := by
    rw [List.flatMap_def, List.flatMap_def]
    congr 1
    exact List.map_congr_left fun i hi => by rw [ha i (List.mem_range.1 hi), hk i (List.mem_range.1 hi)]
  rw [e]; simp
theorem rowOf_at {ns : List Nd} {va vk : Nat → Value} : ∀ (n i c : Nat), i < n → c < 11 → (rowOf ns va vk n)[i * 11 + c]? = (ndCells (ns.getD i nd0) (va i) (vk i))[c]?
  | 0, i, c, h, _ => by omega
  | n + 1, i, c, h, hc => by
    rw [rowOf_succ (va' := va) (vk' := vk) (va := va) (vk := vk) (fun _ _ => rfl) (fun _ _ => rfl)]
    by_cases hi : i < n
    · rw [List.getElem?_append_left (by rw [rowOf_len]; omega)]
      exact rowOf_at n i c hi hc
    · obtain rfl : i = n := by omega
      rw [List.getElem?_append_right (by rw [rowOf_len]; omega), rowOf_len]
      congr 1; omega
/-- A row of nodes as Tree hands it back. -/
def TreeVal (w : World) (G : Nat → Prop) (v : Value) (ns : List Nd) : Prop := ∃ (g cap : Nat) (cur : Array Value) (va vk : Nat → Value), v = .slice (some ⟨g, 0, none⟩) ns.length cap ∧ G g ∧ w.heap[g]? = some (.cells cur 54 (0, 0)) ∧ ns.length ≤ cap ∧ (∀ i c, i < ns.length → c < 11 → cur[i * 11 + c]? = (ndCells (ns.getD i nd0) (va i) (vk i))[c]?) ∧ (∀ i, i < ns.length → IntRow w G (vk i) (ns.getD i nd0).kids) ∧ ∀ i, i < ns.length → ∃ A m c, va i = .slice A m c
theorem own_type {w : World} {B e size n : Nat} {v : Value} {xs : List Value} (h : w.ownsRow B e size v n xs) {k : Nat} {cs : Array Value} {t : TypeId} {f : Nat × Nat} (hk : w.heap[k]? = some (.cells cs t f)) (ht : t ≠ e) : v.ownBlock ≠ some k := by
  obtain ⟨_, ⟨rfl, _⟩ | ⟨g, cap, cur, rfl, _, hh, _⟩⟩ := h
  · intro e; cases e
  · intro e; cases e
    exact blk_ne hk hh ht rfl
theorem nd_one (n : Nd) (A1 : Option Addr) (z1 : Nat) (A2 : Option Addr) (z2 : Nat) : ∀ u ∈ ndCells n (.slice A1 n.attrs.length z1) (.slice A2 n.kids.length z2), u.oneCell' = true := by simp [ndCells, Value.oneCell']
set_option maxRecDepth 100000 in
set_option maxHeartbeats 4000000 in
theorem tree_c {w : World} {F : Nat → Prop} {a : Nat} {ns : List Nd} (h : ArenaRep w F a ns) :
    Calls Tryz.prog 18 #[.pointer (some ⟨a, 0, none⟩)] w fun e w' => ∃ v, e = .returned v ∧ TreeVal w' (fun k => w.heap.size ≤ k ∧ k < w'.heap.size) v ns ∧ Bel w w' := by
  obtain ⟨i0, hinf, hz0, hz1, hz2⟩ := info_parts Tryz.infoNode
  have hsp : 0 < ns.length ∧ ns.length ≤ 1048576 := by
    obtain ⟨g, cap, cur, va, vk, hv⟩ := h
    exact ⟨hv.pos, hv.small⟩
  obtain ⟨hpos, hsm⟩ := hsp
  go_enter Tryz.func18, Tryz.ntmps18
  go_wp2_with (go_at_call 45; refine (aLen_c h).mono ?_; rintro e w' ⟨rfl, rfl⟩)
  go_loopw [3, 7] (fun v x wr => ∃ (j : Nat) (va vk : Nat → Value), j ≤ ns.length ∧ x = .int .i64 j ∧ wr.ownsRow w.heap.size 54 11 v j (rowOf ns va vk j) ∧ Bel w wr ∧ (∀ i, i < j → ∃ A m c, va i = .slice A m c) ∧ ∀ i, i < j → IntRow wr (fun k => w.heap.size ≤ k ∧ k < wr.heap.size) (vk i) (ns.getD i nd0).kids) (fun _ x _ => ns.length - (intOf x).toNat)
  case atStart => exact ⟨0, fun _ => .nilFunc, fun _ => .nilFunc, Nat.zero_le _, rfl, World.ownsRow_nil _ _ _ _, Below.refl _ _, fun i hi => by omega, fun i hi => by omega⟩
  case round =>
    obtain ⟨j, va, vk, hj, rfl, hown, hb, hva, hk⟩ := hrel
    have HVA := Lib.hid hva
    clear hva
    obtain ⟨A8, c8, rfl⟩ := own_shape hown
    have HWB := Lib.hid (own_blk hown)
    have HK := Lib.hid hk
    clear hk
    by_cases hlt : j < ns.length
    · have HN := Lib.hid (aNode_c (h.bel hb) (j : Int))
      have hnn : nodeAt ns (j : Int) = ns.getD j nd0 := nodeAt_cast ns j
      rw [hnn] at HN
      clear hnn
      have HROW : Hid (∀ va' vk' : Nat → Value, (∀ i, i < j → va' i = va i) → (∀ i, i < j → vk' i = vk i) → rowOf ns va' vk' (j + 1) = rowOf ns va vk j ++ ndCells (ns.getD j nd0) (va' j) (vk' j)) := fun va' vk' => rowOf_succ
      obtain ⟨nn, hnn⟩ : ∃ nn, nn = ns.getD j nd0 := ⟨_, rfl⟩
      rw [← hnn] at HN HROW
      have HNN := Lib.hid hnn
      clear hnn
      go_wp2_with (first
        | (go_at_call 46; refine HN.out.mono ?_; rintro e w1 ⟨v1, rfl, ⟨va1, vk1, rfl, hVa, hVk⟩, hb1⟩; obtain ⟨A1, z1, rfl⟩ := hVa.shape; obtain ⟨A2, z2, rfl⟩ := hVk.shape; have hown1 := hown.kept (World.grownBy.mk hb1.os hb1.tape hb1.output hb1.size (fun i hi _ => hb1.block i hi)) (row := none) (by cases A8 <;> simp [Value.ownBlock])
           unfold ndCells)
        | (at_builtin; refine wpList_append_own _ rfl (.tmp 10) (.tmp 14) 47 rfl w.heap.size 54 i0 (.agg (ndCells nd0 (.slice none 0 0) (.slice none 0 0)).toArray) 11 136 Tryz.underlying47 hinf hz0 hz1 hz2 rfl (by decide) _ j _ rfl (hown1.alloc _) ⟨w1.heap.size, 0, none⟩ 1 1 (ndCells nn (.slice A1 nn.attrs.length z1) (.slice A2 nn.kids.length z2)) rfl rfl (World.news_of_block (heap_alloc_new w1 (.cells (ndCells nn (.slice A1 nn.attrs.length z1) (.slice A2 nn.kids.length z2)).toArray 54 (0, 0)))) (nd_one _ _ _ _ _) (by unfold maxLen; omega) (by omega) (by have := hb.size; have := hb1.size; simp; omega) ?_; intro v' w2 hown2 hgrow2 hnn2; clear hnn2)
        | go_in)
      go_roundw
      case rel =>
        have hbw : Bel w w2 := bel_row (bel_tr (bel_tr hb hb1) (bel_alloc w1 _)) hgrow2 HWB.out
        have hz1 := hb1.size; have hz2 := hgrow2.size; have hz := hb.size
        have hz3 : w1.heap.size ≤ w2.heap.size := Nat.le_trans (by simp) hz2
        refine ⟨j + 1, fun i => if i = j then .slice A1 nn.attrs.length z1 else va i, fun i => if i = j then .slice A2 nn.kids.length z2 else vk i, by omega, by go_num, ?_, hbw, fun i hi => by by_cases hij : i = j; exact ⟨_, _, _, if_pos hij⟩; simp only [if_neg hij]; exact HVA.out i (by omega), fun i hi => ?_⟩
        · rw [HROW.out _ _ (fun i hi => if_neg (by omega)) (fun i hi => if_neg (by omega)), if_pos rfl, if_pos rfl]
          exact hown2
        · by_cases hij : i = j
          · subst hij
            simp only [if_true]
            rw [← HNN.out]
            have h1 : IntRow w1 (fun k => wr.heap.size ≤ k ∧ k < w1.heap.size) (.slice A2 nn.kids.length z2) nn.kids := hVk.keep2 (fun _ _ _ => rfl) (fun k hF hob => ⟨hF, hVk.blk_lt k hob⟩)
            refine h1.keepT (fun k cs hF hc => (hgrow2.block k (by simp; omega) (Ne.symm (own_type hown1 hc (by decide)))).trans (Below.heap_alloc _ _ _ hF.2)) (fun k hF => ⟨by omega, by omega⟩)
          · simp only [if_neg hij]
            refine (HK.out i (by omega)).keepT (fun k cs hF hc => (hgrow2.block k (by simp; omega) (Ne.symm (own_type hown hc (by decide)))).trans ((Below.heap_alloc _ _ _ (by omega)).trans (hb1.block k hF.2))) (fun k hF => ⟨hF.1, by omega⟩)
      case measure => simp [intOf]; omega
    · have hjl : j = ns.length := by omega
      go_wp2
      go_ret
      refine ⟨_, rfl, ?_, hb⟩
      subst hjl
      obtain ⟨h0, ⟨e, h1⟩ | ⟨g, cap, cur, e, hbg, hh, h1, h2, h3, h4⟩⟩ := hown
      · omega
      · refine ⟨g, cap, cur, va, vk, e, ⟨hbg, (Array.getElem?_eq_some_iff.1 hh).1⟩, hh, h1, fun i c hi hc => ?_, HK.out, HVA.out⟩
        have e2 : (cur.toList.take (ns.length * 11))[i * 11 + c]? = (rowOf ns va vk ns.length)[i * 11 + c]? := by rw [h4]
        rw [List.getElem?_take_of_lt (by omega), rowOf_at _ _ _ hi hc] at e2
        rw [← Array.getElem?_toList]; exact e2
end Go.Proofs.YtgaebaokcjhcdaaGreatDoor
