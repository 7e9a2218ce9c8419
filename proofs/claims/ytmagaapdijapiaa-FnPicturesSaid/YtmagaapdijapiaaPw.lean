/- The picture of a table of masks: the program's walk. -/
import Derived.Test.YtmagaapdijapiaaRows
import Derived.Test.YtmagaapdijapiaaPb
import Derived.Test.YtmagaapdijapiaaMd
import Derived.Test.YtmagaapdijapiaaSx
namespace Go.Proofs.Ytmagaapdijapiaa
open Go.ChangeShapes Go.WideShapes Go.ChangeAt Go.RowKit
theorem size_setBlock (w : World) (r : Nat) (o : Obj) : (ChangeMaps.setBlock w r o).heap.size = w.heap.size := by simp [ChangeMaps.setBlock]
theorem setBlock_grown (w : World) (r : Nat) (o : Obj) : w.grownBy (ChangeMaps.setBlock w r o) (some r) :=
  ⟨rfl, rfl, rfl, by simp [ChangeMaps.setBlock], fun i _ hne => setBlock_far w r i o (fun e => hne (by rw [e]))⟩
theorem next_step (l : List Bl) (W : World) (ty : TypeId) (r g : Nat) (seen : List Nat) (hm : W.heap[g]? = some (.map (ents l 0).toArray l.length)) (hi : ItAt W r g l.length seen) :
    (seen.Perm (List.range l.length) ∧ (Instr.next (.pointer (some ⟨r, 0, none⟩)) false ty).run Try.prog W = .ok (.tuple #[.bool false]) W) ∨
    ∃ i, ∃ h : i < l.length, i ∉ seen ∧ ∃ W2, (Instr.next (.pointer (some ⟨r, 0, none⟩)) false ty).run Try.prog W = .ok (.tuple #[.bool true, .agg (ivs .i32 l[i].1), .agg (ivs .u16 l[i].2)]) W2 ∧ (Instr.entry (.pointer (some ⟨r, 0, none⟩))).run Try.prog W2 = .ok (.tuple #[.agg (ivs .i32 l[i].1), .agg (ivs .u16 l[i].2)]) W2 ∧ ItAt W2 r g l.length (seen ++ [i]) ∧ W2.heap.size = W.heap.size ∧ W.grownBy W2 (some r) := by
  have hr := hi.lt
  have hne : g ≠ r := fun e => by
    subst e
    obtain ⟨c0, _, h2, _⟩ := hi
    rw [hm] at h2
    cases h2
  rcases next_blocks l W ty r g seen hm hi with h | ⟨i, hil, hs, w1, hw, hn⟩
  · exact .inl h
  · refine .inr ⟨i, hil, hs, _, hn, ?_, ?_, ?_, ?_⟩
    · refine entry_blocks l _ r g seen hil ?_ (setBlock_at _ _ _ ?_)
      · rw [setBlock_far _ _ _ _ hne]
        rcases hw with rfl | rfl <;> exact hm
      · rcases hw with rfl | rfl <;> exact hr
    · refine hi.step hil hs (setBlock_at _ _ _ ?_)
      rcases hw with rfl | rfl <;> exact hr
    · rcases hw with rfl | rfl
      · exact size_setBlock _ _ _
      · exact size_setBlock W.drew _ _
    · rcases hw with rfl | rfl
      · exact setBlock_grown _ _ _
      · exact ⟨rfl, rfl, rfl, Nat.le_of_eq (size_setBlock W.drew _ _).symm, fun i _ hne => setBlock_far W.drew r i _ (fun e => hne (by rw [e]))⟩
theorem own_iter {W W' : World} {base : Nat} {e : TypeId} {s k : Nat} {v : Value} {xs : List Value} {r g n : Nat} {seen : List Nat} (h : W.ownsRow base e s v k xs) (hi : ItAt W r g n seen) (hg : W.grownBy W' (some r)) : W'.ownsRow base e s v k xs := by
  refine h.kept hg ?_
  rcases h.2 with ⟨rfl, _⟩ | ⟨g2, cap2, cur2, rfl, _, hb2, _⟩
  · exact .inl rfl
  · refine .inr fun e' => ?_
    have : g2 = r := by simpa [Value.ownBlock] using e'
    subst this
    obtain ⟨c0, _, h2, _⟩ := hi
    rw [hb2] at h2
    cases h2
theorem it_own {W W' : World} {base : Nat} {e : TypeId} {s k : Nat} {v : Value} {xs : List Value} {r g n : Nat} {seen : List Nat} (h : W.ownsRow base e s v k xs) (hi : ItAt W r g n seen) (hg : W.grownBy W' v.ownBlock) : ItAt W' r g n seen := by
  refine hi.keep (hg.block r hi.lt ?_)
  intro e'
  rcases h.2 with ⟨rfl, _⟩ | ⟨g2, cap2, cur2, rfl, _, hb2, _⟩
  · simp [Value.ownBlock] at e'
  · have : r = g2 := by simpa [Value.ownBlock] using e'
    subst this
    obtain ⟨c0, _, h2, _⟩ := hi
    rw [hb2] at h2
    cases h2
theorem solid_snoc (l : List Bl) (b : Bl) : solid (l ++ [b]) = if emptyM b.2 then solid l else solid l ++ [b] := by
  rw [solid, List.filter_append, ← solid]
  by_cases h : b.2 = zr16
  · rw [emptyM_iff.2 h, if_pos rfl]
    simp [h]
  · have : emptyM b.2 = false := by
      rw [← Bool.not_eq_true, emptyM_iff]
      exact h
    rw [this]
    simp [h]
theorem solid_length (l : List Bl) : (solid l).length ≤ l.length := List.length_filter_le _ _
theorem sorted_exists (D : List Bl) : ∃ m : List Bl, m.Perm D ∧ m.Pairwise fun x y => ¬ ltC y x := by
  classical
  refine ⟨D.mergeSort fun a b => decide (¬ ltC b a), List.mergeSort_perm _ _, ?_⟩
  have h := List.pairwise_mergeSort (le := fun a b : Bl => decide (¬ ltC b a)) (fun a b c h1 h2 => by
    rw [decide_eq_true_iff] at *
    unfold ltC at *
    omega) (fun a b => by
    rw [Bool.or_eq_true, decide_eq_true_iff, decide_eq_true_iff]
    unfold ltC
    omega) D
  exact h.imp fun {a b} hab => by rwa [decide_eq_true_iff] at hab
set_option maxRecDepth 20000 in
set_option maxHeartbeats 6400000 in
theorem pictureOf_any (g : Nat) (l : List Bl) (hl : Tab l) (hn : l.length ≤ 1000000) (w : World) (hm : w.heap[g]? = some (.map (ents l 0).toArray l.length)) (hg : g < w.heap.size) :
    Calls Try.prog 80 #[.map (some g)] w (GivesToldB (picR (picOf (maskAt l))) (picK (picOf (maskAt l))) w) := by
  obtain ⟨i0, hi, hz0, hz1, hz2⟩ := info_parts Block_info
  obtain ⟨iu, hiu, hu0, hu1, hu2⟩ := info_parts U16_info
  have b0 : Below w.heap.size w (w.alloc (.cells #[] 78)) := (Below.refl _ _).alloc (Nat.le_refl _) _
  have hrange : (Instr.range 124 (.map (some g))).run Try.prog (w.alloc (.cells #[] 78)) = .ok (.pointer (some ⟨w.heap.size + 1, 0, none⟩)) ((w.alloc (.cells #[] 78)).alloc (.mapIter (some g) l.length #[] l.length)) := by
    have := run_range_map (P := Try.prog) (w.alloc (.cells #[] 78)) 124 _ _ g (ents l 0).toArray l.length Try.underlying124 ((b0.block g hg).trans hm)
    rwa [size_alloc] at this
  have hit : ItAt ((w.alloc (.cells #[] 78)).alloc (.mapIter (some g) l.length #[] l.length)) (w.heap.size + 1) g l.length [] := ItAt.start (by
    have := heap_alloc_new (w.alloc (.cells #[] 78)) (.mapIter (some g) l.length #[] l.length)
    rwa [size_alloc] at this)
  have h0 : ((w.alloc (.cells #[] 78)).alloc (.mapIter (some g) l.length #[] l.length)).ownsRow w.heap.size 78 18 (.slice (some ⟨w.heap.size, 0, none⟩) 0 0) 0 (bcs []) := (World.ownsRow_lit (e := 78) (base := w.heap.size) (size := 18) w #[] 0 (Nat.le_refl _) (by unfold maxLen; omega) rfl).alloc _
  have B0 := Lib.hid (b0.alloc (by simp) (.mapIter (some g) l.length #[] l.length))
  have HIT := Lib.hid hit
  have H0 := Lib.hid h0
  have HM := Lib.hid hm
  have HL := Lib.hid hl
  clear b0 hit h0 hm hl
  go_enter Try.func80, Try.ntmps80
  go_wp2
  go_loopw [4] (fun v wr => ∃ seen : List Nat, Hid (ItAt wr (w.heap.size + 1) g l.length seen) ∧ (∃ gg cc, v = .slice (some ⟨gg, 0, none⟩) (solid (seenL l seen)).length cc) ∧ Hid (wr.ownsRow w.heap.size 78 18 v (solid (seenL l seen)).length (bcs (solid (seenL l seen)))) ∧ Hid (Below w.heap.size w wr)) (fun _ wr => l.length - (wr.iterSeen (w.heap.size + 1)).size)
  case atStart => exact ⟨[], HIT, ⟨_, _, rfl⟩, H0, B0⟩
  case round =>
    clear HIT H0 B0 hrange
    obtain ⟨seen, HIT, ⟨gg, cc, rfl⟩, HO, HB⟩ := hrel
    have HM2 : Hid (wr.heap[g]? = some (.map (ents l 0).toArray l.length)) := Lib.hid ((HB.out.block g hg).trans HM.out)
    rcases next_step l wr 0 (w.heap.size + 1) g seen HM2.out HIT.out with ⟨hperm, hnext⟩ | ⟨i, hil, hns, w2, hnext, hentry, hit2, hsz2, hgr2⟩
    · have hD : (solid (seenL l seen)).Perm (solid l) := (seenL_all hperm).filter _
      have hDb : Bls (solid (seenL l seen)) := fun b hb => solid_bls HL.out.bls b (hD.mem_iff.1 hb)
      have hDl : (solid (seenL l seen)).length ≤ l.length := by rw [hD.length_eq]; exact solid_length l
      have hps : ∀ m : List Bl, m.Perm (solid (seenL l seen)) → (m.Pairwise fun x y => ¬ ltC y x) → picOf (maskAt l) = m := fun m hm hs => by
        obtain ⟨h1, h2⟩ := pic_sorted HL.out (hm.trans hD) hs
        exact picOf_eq h1 h2
      obtain ⟨m0, hm0, hs0⟩ := sorted_exists (solid (seenL l seen))
      have hlen : (picOf (maskAt l)).length = (solid (seenL l seen)).length := by rw [hps m0 hm0 hs0, hm0.length_eq]
      obtain ⟨A1, c1, hve, hOO⟩ := Own.of_row HO.out
      cases hve
      have hdn : (solid (seenL l seen)).length ≤ 1048576 := by omega
      have HS := Lib.hid (sortBlocks_any (solid (seenL l seen)) hDb rfl hdn hOO)
      have HPS := Lib.hid hps
      have HLEN := Lib.hid hlen
      clear hD hDb hps hlen hOO hm0 hs0 HO hperm
      generalize picOf (maskAt l) = P at *
      generalize solid (seenL l seen) = D at *
      by_cases h64 : D.length ≤ 64
      · have h64I : (D.length : Int) ≤ 64 := by omega
        have HPR : Hid (picR P = P ∧ picK P = 0) := Lib.hid (by rw [picR, picK, HLEN.out, if_pos h64, if_pos h64]; exact ⟨rfl, rfl⟩)
        go_wp2_with (go_at_call 123; refine HS.out.mono ?_; rintro e w2 ⟨rfl, s, hp, hs, ho2, hb2⟩; obtain rfl := HPS.out s hp hs; have HO2 := Lib.hid ho2; have HB2 := Lib.hid (HB.out.trans hb2); have HZ := Lib.hid hb2.size; clear ho2 hb2 hp hs)
        go_ret2
        rw [HPR.out.1, HPR.out.2]
        exact ⟨some ⟨gg, 0, none⟩, cc, by rw [HLEN.out]; rfl, by rw [HLEN.out]; exact HO2.out.more HZ.out, HB2.out⟩
      · have h64I : 64 < (D.length : Int) := by omega
        have HPR : Hid (picR P = [] ∧ picK P = 3) := Lib.hid (by rw [picR, picK, HLEN.out, if_neg h64, if_neg h64]; exact ⟨rfl, rfl⟩)
        go_wp2_with fail
        go_ret2
        rw [HPR.out.1, HPR.out.2]
        exact GivesToldB.nil HB.out
    · have hFl := HL.out.bls.at_ hil
      have hF16 := HL.out.m16 _ (List.getElem_mem hil)
      have hsn := solid_snoc (seenL l seen) l[i]
      rw [← seenL_snoc l seen hil] at hsn
      have hDl : (solid (seenL l seen)).length ≤ l.length := Nat.le_trans (solid_length _) (by rw [seenL, List.length_map]; exact HIT.out.bound)
      have hDb : Bls (solid (seenL l seen)) := solid_bls fun b hb => HL.out.bls b (seenL_mem (fun j hj => by obtain ⟨_, _, _, _, h⟩ := HIT.out; exact h j hj) hb)
      obtain ⟨⟨C, Mm⟩, hF⟩ : ∃ F, F = l[i] := ⟨_, rfl⟩
      rw [← hF] at hFl hF16 hsn hnext hentry
      obtain ⟨X, Y, rfl⟩ : ∃ X Y, C = [X, Y] := ⟨_, _, two_of hFl.1⟩
      have hM16 : Mm.length = 16 := hFl.2
      have hme : (w.heap.size + 1 : Nat) < w2.heap.size := by have := hit2.lt; exact this
      have hmeas : (w2.iterSeen (w.heap.size + 1)).size = seen.length + 1 ∧ (wr.iterSeen (w.heap.size + 1)).size = seen.length ∧ seen.length < l.length := by
        refine ⟨by rw [hit2.seen_eq, List.length_append]; rfl, HIT.out.seen_eq, ?_⟩
        have := hit2.bound
        rw [List.length_append] at this
        exact this
      have HO2 := Lib.hid (own_iter HO.out HIT.out hgr2)
      have HB2 : Hid (Below w.heap.size w w2) := Lib.hid (HB.out.grown hgr2 HB.out.size (fun j e => by cases e; omega))
      have HIT2 := Lib.hid hit2
      have HME := Lib.hid hmeas
      have HSN := Lib.hid hsn
      have HDB := Lib.hid hDb
      have hbld := fun W => run_buildBlock X Y Mm hM16 W
      have heq : ∀ W : World, (Op.equalIn 10000 76 (.agg (ivs .u16 Mm)) (.agg #[.int .u16 0, .int .u16 0, .int .u16 0, .int .u16 0, .int .u16 0, .int .u16 0, .int .u16 0, .int .u16 0, .int .u16 0, .int .u16 0, .int .u16 0, .int .u16 0, .int .u16 0, .int .u16 0, .int .u16 0, .int .u16 0])).run Try.prog W = .ok (emptyM Mm) W := fun W => run_eql_arr (a := Mm) (b := zr16) W Try.underlying76 Try.underlying74 hiu (by kernel_rfl) hM16 rfl
      clear hFl hsn hDb hit2 hgr2 hmeas HO HB HIT hns hF hF16 hsz2
      have HM3 := Lib.hid hM16
      have HBS : Hid ((bav ([X, Y], Mm)).size = 18) := Lib.hid (bav_size (b := ([X, Y], Mm)) ⟨rfl, hM16⟩)
      have HBB : Hid (([X, Y] : List Int).length = 2 ∧ Mm.length = 16) := Lib.hid ⟨rfl, hM16⟩
      generalize hD : solid (seenL l seen) = D at *
      generalize hD2 : solid (seenL l (seen ++ [i])) = D2 at *
      have HD2 := Lib.hid hD2
      clear hD hD2 hM16 hbld
      cases hem : emptyM Mm
      · have hsn2 := HSN.out
        have heq2 := heq
        simp only [hem] at hsn2 heq2
        have HSN2 := Lib.hid hsn2
        clear heq hsn2 hem HSN
        have hcl : (bcs [(([X, Y], Mm) : Bl)]).length = 1 * 18 := by rw [bcs_length (bls_one HBB.out)]; rfl
        go_wp2_with (first
          | (refine wpList_store_row rfl _ _ _ rfl w2.heap.size (ivs .i32 [X, Y]) rfl rfl 63 #[.int .i32 0, .int .i32 0] ((Blk.newAt rfl rfl).alloc _) (by exact size63) rfl ivs_one ?_; generalize hw5 : World.setRow _ _ _ = w5; have G5 : Hid (Blk w5 w2.heap.size 63 (ivs .i32 [X, Y])) := Lib.hid (by rw [← hw5]; exact ((Blk.newAt rfl rfl).alloc _).row _); have G5m : Hid (Blk w5 (w2.heap.size + 1) 76 (ivs .u16 zr16)) := Lib.hid (by rw [← hw5]; exact (Blk.newAt (by simp) rfl).rowFar (by omega) _); have B5 : Hid (Below w2.heap.size w2 w5) := Lib.hid (by rw [← hw5]; exact below_setRow (((Below.refl _ _).alloc (Nat.le_refl _) _).alloc (by simp) _) (Nat.le_refl _) _); clear hw5)
          | (refine wpList_store_row rfl _ _ _ rfl (w2.heap.size + 1) (ivs .u16 Mm) rfl rfl 76 (ivs .u16 zr16) G5m.out (by rw [ivs_size, HM3.out]; exact size76) (by rw [ivs_size, ivs_size, HM3.out]; rfl) ivs_one ?_; generalize hw6 : World.setRow _ _ _ = w6; have G6 : Hid (Blk w6 w2.heap.size 63 (ivs .i32 [X, Y])) := Lib.hid (by rw [← hw6]; exact G5.out.rowFar (by omega) _); have G6m : Hid (Blk w6 (w2.heap.size + 1) 76 (ivs .u16 Mm)) := Lib.hid (by rw [← hw6]; exact G5m.out.row _); have B6 : Hid (Below w2.heap.size w2 w6) := Lib.hid (by rw [← hw6]; exact below_setRow B5.out (by omega) _); clear hw6)
          | refine wpList_load_row rfl _ _ rfl w2.heap.size rfl 63 (ivs .i32 [X, Y]) (0, 0) _ G6.out Try.underlying63 rfl (by exact size63) ?_
          | refine wpList_load_row rfl _ _ rfl (w2.heap.size + 1) rfl 76 (ivs .u16 Mm) (0, 0) _ G6m.out Try.underlying76 rfl (by rw [ivs_size, HM3.out]; exact size76) ?_
          | refine wpList_build_block rfl _ _ rfl X Y Mm HM3.out rfl rfl ?_
          | (refine wpList_buildSlice_block rfl 27 78 _ rfl Try.underlying27 hi hz0 hz1 ([X, Y], Mm) HBB.out rfl ?_; have HNW := Lib.hid (block_news w6 ([X, Y], Mm)); have HOA := Lib.hid ((own_below HO2.out B6.out (Nat.le_refl _)).alloc (.cells (bav ([X, Y], Mm)) 78)); have BA := Lib.hid (B6.out.alloc B6.out.size (.cells (bav ([X, Y], Mm)) 78)))
          | (at_builtin; refine wpList_append_own _ rfl _ _ 27 rfl w.heap.size 78 i0 _ 18 40 Try.underlying27 hi hz0 hz1 hz2 rfl (by decide) (.slice (some ⟨gg, 0, none⟩) D.length cc) D.length _ rfl HOA.out ⟨w6.heap.size, 0, none⟩ 1 1 (bcs [([X, Y], Mm)]) rfl hcl HNW.out (bcs_one _) (by unfold maxLen; omega) (by omega) (by have := BA.out.size; have := HB2.out.size; omega) ?_; intro v8 w8 hown8 hgrow8 hnil8; rw [← bcs_append] at hown8; obtain ⟨g8, c8, rfl⟩ := own_some hown8 (by omega); have HO8 := Lib.hid hown8; have HG8 := Lib.hid hgrow8; clear hown8 hgrow8 hnil8))
        have hD2e : D2 = D ++ [([X, Y], Mm)] := by simpa using HSN2.out
        have hle : D2.length = D.length + 1 := by rw [hD2e, List.length_append]; rfl
        have hitA : ItAt (w6.alloc (.cells (bav ([X, Y], Mm)) 78)) (w.heap.size + 1) g l.length (seen ++ [i]) := HIT2.out.keep (BA.out.block _ hme)
        refine ⟨⟨seen ++ [i], Lib.hid (it_own HOA.out hitA HG8.out), ⟨g8, c8, by rw [HD2.out, hle]⟩, Lib.hid (by rw [HD2.out, hle, hD2e]; exact HO8.out), Lib.hid ((HB2.out.trans (BA.out.mono HB2.out.size)).grown HG8.out (by have := BA.out.size; have := HB2.out.size; omega) (fun j e => (HOA.out.lt _ e).1))⟩, ?_⟩
        have h1 := HME.out
        have h2 := (it_own HOA.out hitA HG8.out).seen_eq
        rw [List.length_append, List.length_singleton] at h2
        rw [h2]
        omega
      · have hsn2 := HSN.out
        have heq2 := heq
        simp only [hem] at hsn2 heq2
        have HSN2 := Lib.hid hsn2
        clear heq hsn2 hem HSN HBS HBB
        go_wp2_with (first
          | (refine wpList_store_row rfl _ _ _ rfl w2.heap.size (ivs .i32 [X, Y]) rfl rfl 63 #[.int .i32 0, .int .i32 0] ((Blk.newAt rfl rfl).alloc _) (by exact size63) rfl ivs_one ?_; generalize hw5 : World.setRow _ _ _ = w5; have G5 : Hid (Blk w5 w2.heap.size 63 (ivs .i32 [X, Y])) := Lib.hid (by rw [← hw5]; exact ((Blk.newAt rfl rfl).alloc _).row _); have G5m : Hid (Blk w5 (w2.heap.size + 1) 76 (ivs .u16 zr16)) := Lib.hid (by rw [← hw5]; exact (Blk.newAt (by simp) rfl).rowFar (by omega) _); have B5 : Hid (Below w2.heap.size w2 w5) := Lib.hid (by rw [← hw5]; exact below_setRow (((Below.refl _ _).alloc (Nat.le_refl _) _).alloc (by simp) _) (Nat.le_refl _) _); clear hw5)
          | (refine wpList_store_row rfl _ _ _ rfl (w2.heap.size + 1) (ivs .u16 Mm) rfl rfl 76 (ivs .u16 zr16) G5m.out (by rw [ivs_size, HM3.out]; exact size76) (by rw [ivs_size, ivs_size, HM3.out]; rfl) ivs_one ?_; generalize hw6 : World.setRow _ _ _ = w6; have G6 : Hid (Blk w6 w2.heap.size 63 (ivs .i32 [X, Y])) := Lib.hid (by rw [← hw6]; exact G5.out.rowFar (by omega) _); have G6m : Hid (Blk w6 (w2.heap.size + 1) 76 (ivs .u16 Mm)) := Lib.hid (by rw [← hw6]; exact G5m.out.row _); have B6 : Hid (Below w2.heap.size w2 w6) := Lib.hid (by rw [← hw6]; exact below_setRow B5.out (by omega) _); clear hw6)
          | refine wpList_load_row rfl _ _ rfl w2.heap.size rfl 63 (ivs .i32 [X, Y]) (0, 0) _ G6.out Try.underlying63 rfl (by exact size63) ?_
          | refine wpList_load_row rfl _ _ rfl (w2.heap.size + 1) rfl 76 (ivs .u16 Mm) (0, 0) _ G6m.out Try.underlying76 rfl (by rw [ivs_size, HM3.out]; exact size76) ?_)
        have hD2e : D2 = D := by simpa using HSN2.out
        have hitA : ItAt w6 (w.heap.size + 1) g l.length (seen ++ [i]) := HIT2.out.keep (B6.out.block _ hme)
        refine ⟨⟨seen ++ [i], Lib.hid hitA, ⟨gg, cc, by rw [HD2.out, hD2e]⟩, Lib.hid (by rw [HD2.out, hD2e]; exact own_below HO2.out B6.out (Nat.le_refl _)), Lib.hid (HB2.out.trans (B6.out.mono HB2.out.size))⟩, ?_⟩
        have h1 := HME.out
        have h2 := hitA.seen_eq
        rw [List.length_append, List.length_singleton] at h2
        rw [h2]
        omega
end Go.Proofs.Ytmagaapdijapiaa
