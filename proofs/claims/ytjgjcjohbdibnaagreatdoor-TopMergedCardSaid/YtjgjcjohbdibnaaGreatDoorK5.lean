/- Walks of functions that braidtop.TopMerged reaches, each with what it computes, and the plain laws of what they compute, part 5. Conditions: those of each theorem (the arguments lie in blocks that no longer change, sizes as the law bounds them). Printed by a program of this claim and shortened by another: the names of two letters are abbreviations, explained where the first of them stand. -/
import Derived.Test.YtjgjcjohbdibnaaGreatDoorK4
set_option linter.all false
namespace Go.Brd
open Go Go.Brd Go.Proofs
set_option linter.unusedVariables false
theorem un_134 : Tryz.prog.underlying 134 = some (.map 74 61) := by kernel_rfl
theorem zva_61 : zeroV Tryz.prog 61 = some (.agg ([.int .u32 0, .slice none 0 0, .int .u64 0, .int .u8 0, .string ⟨#[]⟩, .int .u8 0, .int .i64 0, .int .u64 0, .string ⟨#[]⟩, .int .u32 0, .int .u32 0]).toArray) := by kernel_rfl
theorem kt_id : KeyT Tryz.prog 74 (List.replicate 32 (.i .u8)) idC (fun x : ID => x.length = 32) := ⟨sh_id, ia_id, fun x hx => fitsL_ids 32 x hx, fun x y _ _ h => idC_inj h⟩
abbrev opX (x : Op × Value) : Value := opV x.1 x.2
theorem Apt.of_nodup {l : List Op} (h : (l.map idOf).Nodup) : Apt l := by
 intro x hx y hy e;obtain ⟨i, hi, ex⟩ := List.getElem_of_mem hx;obtain ⟨j, hj, ey⟩ := List.getElem_of_mem hy;have h1 : (l.map idOf)[i]? = some (idOf x) := map_get (by rw [List.getElem?_eq_getElem hi, ex]);have h2 : (l.map idOf)[j]? = some (idOf x) := by rw [e]; exact map_get (by rw [List.getElem?_eq_getElem hj, ey])
 have := nodup_inj h h1 h2;subst this; rw [← ex, ← ey]
def SeenOK (h : GH) (all : List Op) (m : List (ID × (Op × Value))) : Prop := ∀ p ∈ m, p.1 = idOf p.2.1 ∧ p.2.1 ∈ all ∧ ROp h p.2
theorem SeenOK.mono {h h' : GH} {all : List Op} {m : List (ID × (Op × Value))} (hle : GH.le h h') (s : SeenOK h all m) : SeenOK h' all m := fun p hp => ⟨(s p hp).1, (s p hp).2.1, (s p hp).2.2.mono hle⟩
theorem SeenOK.keys {h : GH} {all : List Op} {m : List (ID × (Op × Value))} (s : SeenOK h all m) : ∀ p ∈ m, p.1.length = 32 := fun p hp => by rw [(s p hp).1]; exact idOf_len _
theorem SeenOK.set {h : GH} {all : List Op} {m : List (ID × (Op × Value))} (s : SeenOK h all m) {y : Op × Value} (hy : y.1 ∈ all) (hr : ROp h y) : SeenOK h all (mset (idOf y.1) y m) := fun p hp => by
 rcases mem_mset hp with rfl | hp
 · exact ⟨rfl, hy, hr⟩
 · exact s p hp
def allOps (gs : List GrE) : List Op := gs.flatMap fun g => fst1 g.xs
theorem mem_allOps {gs : List GrE} {g : GrE} {o : Op} (hg : g ∈ gs) (ho : o ∈ fst1 g.xs) : o ∈ allOps gs := List.mem_flatMap.2 ⟨g, hg, ho⟩
theorem conv_same2 {c : World} {h : GH} {L : Own} {o o' : Op} {pv qv : Value} (e : o = o') (hp : RIds h pv o.preds) (hq : RIds h qv o'.preds) : Fun Tryz.prog c 74 #[opV o pv, opV o' qv] h L (fun u _ L' => u = .bool true ∧ L = L') := by subst e; exact conv_same hp hq
theorem gr_nil (h : GH) : GR h ⟨.slice none 0 0, .slice none 0 0, []⟩ := ⟨⟨by simp [fst1], by simp [fst1], by simp [fst1], none, 0, by simp [fst1], by simp [fst1], by decide, .inl rfl⟩, ⟨⟨by simp, by simp, by simp, none, 0, by simp, by simp, by decide, .inl rfl⟩, fun x hx => by cases hx⟩⟩
theorem dag_of {c : World} {h : GH} {L : Own} {v0 : Value} {xs : List (Op × Value)} (hg : GK h) (ho : ROps h v0 xs) (hall : ∀ o ∈ fst1 xs, opOk o = true ∧ sgn o = true) (hnd : ((fst1 xs).map idOf).Nodup) (h60 : xs.length ≤ 60) (hG : GOk (unionO [] (fst1 xs))):
 Fun Tryz.prog c 19 #[v0] h L (fun u h' L' => (∃ g : GrE, u = .tuple #[.agg (grC g).toArray, .int .i64 0] ∧ GR h' g ∧ fst1 g.xs = unionO [] (fst1 xs)) ∧ L = L') := by
 have hfl := fst1_len xs;refine kF (N := 62) (args := [v0]) Tryz.func19 ?_;refine qo ae ?_;refine qg (qa zc_25 ?_);intro b2;refine qg (qd (qo ae ?_));refine qg (qg (qm sl_23 (ROps.sl aa) ?_));refine qg (gtrB (fun c17 => ?_) (fun c17 => ?_))
 ·
  omega
 ·
  refine qd (qo ae ?_);refine qg (qg (qm sl_23 (ROps.sl aa) ?_));refine qg (qd ?_);refine qL (fun s0 nn s' h' L' => ∃ (k : Nat), s' = [(21, .int .i64 k)] ++ qR s0 [0, 2, 19, 20] ∧ nn = xs.length - k ∧ (b2, .cells [.slice none 0 0, .slice none 0 0].toArray 25 (0, 0)) :: L = L' ∧ k ≤ xs.length) ⟨0, rfl, rfl, rfl, ?_⟩ zg zl zn ?_
  · exact Nat.zero_le _
  rintro nn s1 h1 L_ le2 ⟨k, rfl, rfl, rfl, hk⟩;replace hg := hg.mono le2; replace ho := ho.mono le2;refine qo ae ?_;refine qg (lssB (fun c22 => ?_) (fun c22 => ?_))
  ·
   have hkl : k < xs.length := by omega
   obtain ⟨x, hx, hfx⟩ := fst1_get hkl;have hr := ho.each x (List.mem_of_getElem? hx);obtain ⟨hok, hsg⟩ := hall x.1 (mem_fst1 hx);have hok := opOk_iff.1 hok;refine qd (qo ae ?_);refine qg (qi (k := k) sl_23 ho.sl rfl hx ?_);intro p23 r23 hl23 hp23;refine qg (qP ag_61 aa aa ?_);refine qg (qa zc_61 ?_);intro b5;refine qg (kB (l' := opC2 x.1 x.2) si_61 ac ai (opC_one2 (Sl.one hr.preds)) kR ab rfl kR.symm ?_);refine qd (qo ae ?_);refine qg (qx (r := opC2 x.1 x.2) ag_61 kH ab rfl ?_);refine qg (qc (op_verify (o := x.1) (pv := x.2) hg hok hsg hr.wf (ho.each x (List.mem_of_getElem? hx)).preds) ?_);rintro v26 h4 L_ le3 ⟨rfl, rfl⟩;refine qg (qd (qo ae ?_));refine qg (qg (neqB (fun c28 => ?_) (fun c28 => ?_)))
   ·
    omega
   ·
    refine qd (qo ae ?_);refine qg (qA ak ?_);refine qg (qd ?_);exact back (m := _) ⟨k + 1, rfl, rfl, rfl, by omega⟩ af (qh (zu (zv kS))) zl zn
  ·
   refine qd (qo ae ?_);refine qg (qa zc_25 ?_);intro b7;refine qd (qo ae ?_);refine qg (qg (qm sl_23 (ROps.sl aa) ?_));refine qg (qd ?_);refine qL (fun s0 nn s' h' L' => ∃ (k : Nat) (g : GrE), s' = [(34, .int .i64 k)] ++ qR s0 [2, 7, 32, 33] ∧ nn = xs.length - k ∧ (b7, .cells (grC g).toArray 25 (0, 0)) :: (b2, .cells [.slice none 0 0, .slice none 0 0].toArray 25 (0, 0)) :: L = L' ∧ k ≤ xs.length ∧ GR h' g ∧ fst1 g.xs = unionO [] ((fst1 xs).take k)) ⟨0, ⟨.slice none 0 0, .slice none 0 0, []⟩, rfl, rfl, rfl, ?_⟩ zg zl zn ?_
   · exact ⟨Nat.zero_le _, gr_nil _, rfl⟩
   rintro nn s1 h5 L_ le6 ⟨k, g, rfl, rfl, rfl, hk, hgr, hfg⟩;replace hg := hg.mono le6; replace ho := ho.mono le6;refine qo ae ?_;refine qg (lssB (fun c35 => ?_) (fun c35 => ?_))
   ·
    have hkl : k < xs.length := by omega
    obtain ⟨x, hx, hfx⟩ := fst1_get hkl;have hr := ho.each x (List.mem_of_getElem? hx);obtain ⟨hok, hsg⟩ := hall x.1 (mem_fst1 hx);have hok := opOk_iff.1 hok;have hcl : (idC (idOf x.1)).length = 32 := by rw [idC_length, idOf_len]
    have hst := unionO_step (a := []) hfx;have hris : risB ((fst1 g.xs).map idOf) = true := by rw [hfg]; exact risB_of_pairwise (unionO_rising (a := []) (by unfold Rising; simp))
    have hgl := unionO_len [] ((fst1 xs).take k);rw [← hfg, fst1_len, List.length_take, List.length_nil] at hgl
    have hps : ∀ y ∈ g.xs, y.1.preds.length ≤ 4 := fun y hy => by
     have hm : y.1 ∈ unionO [] ((fst1 xs).take k) := by rw [← hfg]; exact List.mem_map.2 ⟨y, hy, rfl⟩
     exact unionO_small (P := fun o => o.preds.length ≤ 4) (fun o ho => by cases ho) (fun o ho => (opOk_iff.1 (hall o (List.mem_of_mem_take ho)).1).preds) _ hm
    have hnin : idOf x.1 ∉ (fst1 g.xs).map idOf := fun hm => by
     obtain ⟨y, hy, e⟩ := List.mem_map.1 hm;rw [hfg] at hy;have hy2 := (mem_unionO (a := []) (Apt.of_nodup (by rw [List.nil_append, List.map_take]; exact List.Nodup.sublist (List.take_sublist _ _) hnd))).1 hy;rcases hy2 with h9 | h9
     · cases h9
     · have h8 : idOf x.1 ∈ ((fst1 xs).map idOf).take k := by rw [← List.map_take, ← e]; exact List.mem_map.2 ⟨y, h9, rfl⟩
       exact not_mem_take hnd (map_get hfx) h8
    refine qd (qo ae ?_);refine qg (qi (k := k) sl_23 ho.sl rfl hx ?_);intro p36 r36 hl36 hp36;refine qg (qP ag_61 aa aa ?_);refine qg (qa zc_61 ?_);intro b9;refine qg (kB (l' := opC2 x.1 x.2) si_61 ac ai (opC_one2 (Sl.one hr.preds)) kR ab rfl kR.symm ?_);refine qd (qo ae ?_);refine qg (qx (r := opC2 x.1 x.2) ag_61 kH ab rfl ?_);refine qg (qc (op_id (o := x.1) (pv := x.2) hg hok hr.wf (ho.each x (List.mem_of_getElem? hx)).preds) ?_);rintro v40 h8 L_ le7 ⟨rfl, rfl⟩;replace ho := ho.mono le7; replace hgr := hgr.mono le7;refine qg (qg (qg (qg (qa zc_74 ?_))));intro b10;refine qg (kB (l' := idC (idOf x.1)) si_74 ac hcl (idC_one _) kR ab (over_all (by rw [hcl, List.length_replicate])) kR.symm ?_);refine qg (qd (qo ae ?_));refine qg (qx (r := grC g) ag_25 (kT (kT kH)) ab rfl ?_);refine qg (qx (r := idC (idOf x.1)) ag_74 kH (by rw [hcl]; decide) (by rw [List.drop_zero, List.take_of_length_le (by rw [hcl]; decide)]) ?_);refine qg (qx (r := opC2 x.1 x.2) ag_61 (kT kH) ab rfl ?_);refine qg (qc (dag_put (iv := g.iv) (ov := g.ov) (xs := g.xs) (o := x.1) (pv := x.2) (id := idOf x.1) hgr.ids hris hgr.ops (by rw [List.length_map, fst1_len]) af hcl (ho.each x (List.mem_of_getElem? hx)).preds (ho.each x (List.mem_of_getElem? hx)).wf hok.preds hps) ?_);rintro v47 h10 L_ le9 ⟨hput, rfl⟩
    obtain ⟨g2, rfl, hgr2, hfg2⟩ : ∃ (g2 : GrE), v47 = .tuple #[.agg (grC g2).toArray, .bool true] ∧ GR _ g2 ∧ fst1 g2.xs = unionO [] ((fst1 xs).take (k + 1)) := by
     rcases hput with ⟨hm, rfl⟩ | ⟨hm, i, iv', ov', xs', hlb, rfl, hri, hro, hfx2⟩
     · exact absurd hm hnin
     · refine ⟨⟨iv', ov', xs'⟩, rfl, ⟨?_, hro⟩, ?_⟩
       · show RIds _ iv' ((fst1 xs').map idOf)
         rw [hfx2, insO_eq hlb, ← hlb.insO_ids]; exact hri
       · show fst1 xs' = _
         rw [hfx2, insO_eq hlb, hst, ← hfg, addO_out hm]
    refine qg (qg (qg (qg (qa zc_25 ?_))));intro b12;refine qg (kB (l' := grC g2) si_25 ac ai (grC_one hgr2) kR ab rfl kR.symm ?_);refine qg (qd (qo ae ?_));refine qg (qg (not_tt ?_));refine qd (qo ae ?_);refine qg (qx (r := grC g2) ag_25 kH ab rfl ?_);refine qg (kB (l' := grC g2) si_25 ac ai (grC_one hgr2) ((zc ((zc ((zc kR).trans zw)).trans zw)).trans zw) ab rfl ((zc ((zc ((zc kR).trans zw)).trans zw)).trans zw).symm ?_);refine qd (qo ae ?_);refine qg (qA ak ?_);refine qg (qd ?_);exact back (m := _) ⟨k + 1, g2, rfl, rfl, rfl, by omega, hgr2, hfg2⟩ af (qh (zu (zu (zu (zv (zv kS)))))) zl zn
   ·
    have hke : k = xs.length := by omega
    rw [hke, List.take_of_length_le af] at hfg;have hGg : GOk (fst1 g.xs) := by rw [hfg]; exact hG
    have hgl : g.xs.length ≤ 60 := by have := hGg.small; rw [fst1_len] at this; exact this
    refine qd (qo ae ?_);refine qg (qx (r := grC g) ag_25 kH ab rfl ?_);refine qg (qc (dag_shape hgr.ids hgr.ops hGg.ris (by rw [List.length_map, fst1_len]) hgl hGg.closed hGg.preds hGg.rank2) ?_);rintro v56 h12 L_ le11 ⟨rfl, rfl⟩;replace hgr := hgr.mono le11;refine qg (qd (qo ae ?_));refine qg (qg (neqB (fun c58 => ?_) (fun c58 => ?_)))
    ·
     omega
    ·
     refine qd (qo ae ?_);refine qg (qx (r := grC g) ag_25 kH ab rfl ?_);refine qg (kB (l' := grC g) si_25 ac ai (grC_one hgr) ((zc kR).trans zw) ab rfl ((zc kR).trans zw).symm ?_);refine qg (qd ?_);refine DoRet.r2 (.cell rfl (qx (r := grC g) ag_25 (kT kH) ab rfl rfl)) (.tmp rfl) (qh (zu (zu kS))) zl ?_;exact ⟨⟨g, rfl, hgr, hfg⟩, rfl⟩
theorem conv_check {c : World} {h : GH} {L : Own} {v : Value} {gs : List GrE} (hg : GK h) (hs : RGs h v gs) (hG : ∀ g ∈ gs, GOk (fst1 g.xs)) (h5 : gs.length ≤ 5) (hA : Apt (allOps gs)):
 Fun Tryz.prog c 33 #[v] h L (fun u _ L' => u = .int .i64 0 ∧ L = L') := by
 refine kF (N := 69) (args := [v]) Tryz.func33 ?_;refine qo ae ?_;refine qg (qd (qo ae ?_));refine qg (qg (qm sl_34 hs.sl ?_));refine qg (gtrB (fun c15 => ?_) (fun c15 => ?_))
 ·
  omega
 ·
  refine qd (qo ae ?_);refine qg (qg (qm sl_34 hs.sl ?_));refine qg (qd ?_);refine qL (fun s0 nn s' h' L' => ∃ (k : Nat), s' = [(18, .int .i64 k)] ++ qR s0 [0, 16, 17] ∧ nn = gs.length - k ∧ L = L' ∧ k ≤ gs.length) ⟨0, rfl, rfl, rfl, ?_⟩ zg zl zn ?_
  · exact Nat.zero_le _
  rintro nn s1 h1 L_ le2 ⟨k, rfl, rfl, rfl, hk⟩;replace hg := hg.mono le2; replace hs := hs.mono le2;refine qo ae ?_;refine qg (lssB (fun c19 => ?_) (fun c19 => ?_))
  ·
   have hkl : k < gs.length := by omega
   obtain ⟨x, hx⟩ := qE hkl;have hr := hs.each x (List.mem_of_getElem? hx);refine qd (qo ae ?_);refine qg (qi (k := k) sl_34 hs.sl rfl hx ?_);intro p20 r20 hl20 hp20;refine qg (qP ag_25 aa aa ?_);refine qg (qa zc_25 ?_);intro b4;refine qg (kB (l' := grC x) si_25 ac ai (grC_one hr) kR ab rfl kR.symm ?_);refine qd (qo ae ?_);refine qg (qx (r := grC x) ag_25 kH ab rfl ?_);refine qg (qc (dag_check hg hr.ids hr.ops (hG x (List.mem_of_getElem? hx))) ?_);rintro v23 h4 L_ le3 ⟨rfl, rfl⟩;refine qg (qd (qo ae ?_));refine qg (qg (neqB (fun c25 => ?_) (fun c25 => ?_)))
   ·
    omega
   ·
    refine qd (qo ae ?_);refine qg (qA ak ?_);refine qg (qd ?_);exact back (m := _) ⟨k + 1, rfl, rfl, rfl, by omega⟩ af (qh (zu kS)) zl zn
  ·
   refine qd (qo ae ?_);refine qg (make_map ?_);intro b28;refine qg (qd (qo ae ?_));refine qg (qg (qm sl_34 hs.sl ?_));refine qg (qd ?_);refine qL (fun s0 nn s' h' L' => ∃ (k : Nat) (m : List (ID × (Op × Value))), s' = [(31, .int .i64 k)] ++ qR s0 [6, 29, 30] ∧ nn = gs.length - k ∧ (b28, mapO (mapA idC opX m)) :: L = L' ∧ k ≤ gs.length ∧ SeenOK h' (allOps gs) m) ⟨0, [], rfl, rfl, rfl, ?_⟩ zg zl zn ?_
   · exact ⟨Nat.zero_le _, fun p hp => by cases hp⟩
   rintro nn s1 h5 L_ le6 ⟨k, m, rfl, rfl, rfl, hk, hm⟩;replace hs := hs.mono le6;refine qo ae ?_;refine qg (lssB (fun c32 => ?_) (fun c32 => ?_))
   ·
    have hkl : k < gs.length := by omega
    obtain ⟨x, hx⟩ := qE hkl;have hxm := List.mem_of_getElem? hx;have hr := hs.each x hxm;have hri := hr.ids;have hro := hr.ops;have hGx := hG x hxm;have hxl := fst1_len x.xs;have hx60 := hGx.small;refine qd (qo ae ?_);refine qg (qi (k := k) sl_34 hs.sl rfl hx ?_);intro p33 r33 hl33 hp33;refine qg (qP ag_25 aa aa ?_);refine qg (qa zc_25 ?_);intro b8;refine qg (kB (l' := grC x) si_25 ac ai (grC_one hr) kR ab rfl kR.symm ?_);refine qd (qo ae ?_);refine qg (qw fi_25_0 ?_);refine qg (qO sc_22 kH an ?_);refine qg (qm sl_22 aa ?_);refine qg (qd ?_);refine qL (fun s0 nn s' h' L' => ∃ (j : Nat) (m2 : List (ID × (Op × Value))), s' = [(38, .int .i64 j)] ++ qR s0 [6, 8, 29, 30, 31, 36, 37] ∧ nn = x.xs.length - j ∧ (b8, .cells (grC x).toArray 25 (0, 0)) :: (b28, mapO (mapA idC opX m2)) :: L = L' ∧ j ≤ x.xs.length ∧ SeenOK h' (allOps gs) m2) ⟨0, m, rfl, rfl, rfl, ?_⟩ zg zl zn ?_
    · exact ⟨Nat.zero_le _, hm⟩
    rintro nn s1 h7 L_ le8 ⟨j, m2, rfl, rfl, rfl, hj, hm2⟩;replace hri := hri.mono le8; replace hro := hro.mono le8;refine qo ae ?_;refine qg (lssB (fun c39 => ?_) (fun c39 => ?_))
    ·
     rw [List.length_map, hxl] at c39;have hjl : j < x.xs.length := by omega
     obtain ⟨y, hy⟩ := qE hjl;have hry := hro.each y (List.mem_of_getElem? hy);obtain ⟨hok, hsg, hyi⟩ := hGx.idx hy;have hcl : (idC (idOf y.1)).length = 32 := by rw [idC_length, idOf_len]
     have hyall : y.1 ∈ allOps gs := mem_allOps hxm (mem_fst1 hy);refine qd (qo ae ?_);refine qg (qg (qi (k := j) sl_22 aa rfl hyi ?_));intro p41 r41 hl41 hp41;refine qg (qP ag_74 aa aa ?_);refine qg (qa zc_74 ?_);intro b10;refine qg (qg (kB (l' := idC (idOf y.1)) si_74 ac hcl (idC_one _) kR ab (over_all (by rw [hcl, List.length_replicate])) kR.symm ?_));refine qd (qo ae ?_);refine qg (qg (qx (r := idC (idOf y.1)) ag_74 kH (by rw [hcl]; decide) (by rw [List.drop_zero, List.take_of_length_le (by rw [hcl]; decide)]) ?_));refine qg (lookup_mapA (k := idOf y.1) un_134 kt_id (idOf_len _) hm2.keys zva_61 (.inr (kT (kT kH))) (fun iz z hget => ?_) (fun hget => ?_))
     ·
      have hzm := hm2 _ (mget_mem hget);obtain ⟨hz1, hz2, hz3⟩ := hzm;simp only at hz1 hz2 hz3;have hzy : z.1 = y.1 := hA z.1 hz2 y.1 hyall hz1.symm;have hzp := hz3.preds;refine qg (qg (qg (qg (qa zc_61 ?_))));intro b11;refine qg (kB (l' := opC2 z.1 z.2) si_61 ac ai (opC_one2 (Sl.one hzp)) kR ab rfl kR.symm ?_);refine qg (qd ?_);refine qD mixed [] [0, 1, 2, 3, 4, 5, 6, 7, 8, 9, 10] (_ :: (_ :: [])) ae (qq kH (qq (kT (kT kH)) sub_nil)) ?_;refine qr rfl rfl rfl (qr rfl rfl rfl (DoDr.rdT rfl rfl rfl rfl rfl ?_));refine qx (r := opC2 z.1 z.2) ag_61 kH ab rfl ?_;refine DoDr.rdT rfl rfl rfl rfl rfl ?_;refine qw fi_25_1 ?_;refine DoDr.rdT rfl rfl rfl rfl rfl ?_;refine qO sc_23 (kT kH) an ?_;refine DoDr.rdT rfl rfl rfl rfl rfl ?_;refine DoDr.rdT rfl rfl rfl rfl rfl ?_;refine qi (k := j) sl_23 hro.sl rfl hy ?_;intro p55 r55 hl55 hp55;refine DoDr.rdT rfl rfl rfl rfl rfl ?_;refine qP ag_61 aa aa ?_;refine DoDr.efT rfl rfl rfl rfl rfl ?_;refine qc (conv_same2 (o := z.1) (pv := z.2) (o' := y.1) (qv := y.2) hzy (hm2 _ (mget_mem hget)).2.2.preds (hro.each y (List.mem_of_getElem? hy)).preds) ?_;rintro v57 h10 L_ le9 ⟨rfl, rfl⟩;replace hro := hro.mono le9; replace hm2 := hm2.mono le9;refine ⟨(qq kH (qq (kT (kT kH)) sub_nil)), ?_⟩;refine DoDr.rdT rfl rfl rfl rfl rfl ?_;refine not_tt ?_;refine qr rfl rfl rfl (qe zf ?_);refine qD mixed [] [0, 1, 2, 3, 4, 5, 6, 7] (_ :: (_ :: [])) ae (qq (kT kH) (qq (kT (kT kH)) sub_nil)) ?_;refine qr rfl rfl rfl (qr rfl rfl rfl (qx (r := idC (idOf y.1)) ag_74 kH (by rw [hcl]; decide) (by rw [List.drop_zero, List.take_of_length_le (by rw [hcl]; decide)]) ?_));refine qr rfl rfl rfl (qw fi_25_1 ?_);refine qr rfl rfl rfl (qO sc_23 (kT kH) an ?_);refine qr rfl rfl rfl (qr rfl rfl rfl (qi (k := j) sl_23 hro.sl rfl hy ?_));intro p65 r65 hl65 hp65;refine qr rfl rfl rfl (qP ag_61 aa aa ?_);refine qj rfl rfl rfl ?_;refine map_updateA (k := idOf y.1) (v := y) un_134 kt_id (idOf_len _) hm2.keys rfl ((zc ((zc ((zc kR).trans zw)).trans zw)).trans zw) ((zc ((zc ((zc kR).trans zw)).trans zw)).trans zw).symm ?_;refine ⟨(qq (kT kH) (qq (kT (kT kH)) sub_nil)), ?_⟩;refine qe zf ?_;refine qo ae ?_;refine qg (qA ak ?_);refine qg (qd ?_);exact back (m := _) ⟨j + 1, mset (idOf y.1) y m2, rfl, rfl, rfl, by omega, hm2.set hyall (hro.each y (List.mem_of_getElem? hy))⟩ af (qh (zu (zu (zv (zv kS))))) zl zn
     ·
      refine qg (qg (qg (qg (qa zc_61 ?_))));intro b11;refine qg (kB si_61 ac ai ad kR ab rfl kR.symm ?_);refine qg (qd ?_);refine qD mixed [] [0, 1, 2, 3, 4, 5, 6, 7, 8, 9, 10] (_ :: (_ :: [])) ae (qq kH (qq (kT (kT kH)) sub_nil)) ?_;refine qr rfl rfl rfl (qr rfl rfl rfl (DoDr.skipT rfl rfl rfl rfl ?_));refine DoDr.skipT rfl rfl rfl rfl ?_;refine DoDr.skipT rfl rfl rfl rfl ?_;refine DoDr.skipT rfl rfl rfl rfl ?_;refine DoDr.skipT rfl rfl rfl rfl ?_;refine DoDr.skipT rfl rfl rfl rfl ?_;refine DoDr.skipT rfl rfl rfl rfl ?_;refine DoDr.skipT rfl rfl rfl rfl ?_;refine qr rfl rfl rfl (qe zf ?_);refine qD mixed [] [0, 1, 2, 3, 4, 5, 6, 7] (_ :: (_ :: [])) ae (qq (kT kH) (qq (kT (kT kH)) sub_nil)) ?_;refine qr rfl rfl rfl (qr rfl rfl rfl (qx (r := idC (idOf y.1)) ag_74 kH (by rw [hcl]; decide) (by rw [List.drop_zero, List.take_of_length_le (by rw [hcl]; decide)]) ?_));refine qr rfl rfl rfl (qw fi_25_1 ?_);refine qr rfl rfl rfl (qO sc_23 (kT kH) an ?_);refine qr rfl rfl rfl (qr rfl rfl rfl (qi (k := j) sl_23 hro.sl rfl hy ?_));intro p65 r65 hl65 hp65;refine qr rfl rfl rfl (qP ag_61 aa aa ?_);refine qj rfl rfl rfl ?_;refine map_updateA (k := idOf y.1) (v := y) un_134 kt_id (idOf_len _) hm2.keys rfl ((zc ((zc ((zc kR).trans zw)).trans zw)).trans zw) ((zc ((zc ((zc kR).trans zw)).trans zw)).trans zw).symm ?_;refine ⟨(qq (kT kH) (qq (kT (kT kH)) sub_nil)), ?_⟩;refine qe zf ?_;refine qo ae ?_;refine qg (qA ak ?_);refine qg (qd ?_);exact back (m := _) ⟨j + 1, mset (idOf y.1) y m2, rfl, rfl, rfl, by omega, hm2.set hyall (hro.each y (List.mem_of_getElem? hy))⟩ af (qh (zu (zu (zv (zv kS))))) zl zn
    ·
     refine qd (qo ae ?_);refine qg (qA ak ?_);refine qg (qd ?_);exact back (m := _) ⟨k + 1, m2, rfl, rfl, rfl, by omega, hm2⟩ af (qh (zu (zv kS))) zl zn
   ·
    refine qd (qo ae ?_);refine qg (qd ?_);refine DoRet.r1 (.tmp rfl) (qh (zu kS)) zl ?_;exact ⟨rfl, rfl⟩
end Go.Brd
namespace Go.Brd
open Go Go.Brd Go.Proofs
set_option linter.unusedVariables false
theorem ag_68 : aggN Tryz.prog 68 2 = true := by kernel_rfl
theorem fi_68_0 : fieldIs Tryz.prog 68 0 0 = true := by kernel_rfl
theorem fi_68_1 : fieldIs Tryz.prog 68 1 1 = true := by kernel_rfl
theorem si_68 : sizeIs Tryz.prog 68 2 = true := by kernel_rfl
theorem sl_122 : sliceOf Tryz.prog 122 68 2 = true := by kernel_rfl
theorem un_23 : Tryz.prog.underlying 23 = some (.slice 61) := by kernel_rfl
theorem z_25 : zeroIs Tryz.prog 25 2 = true := by kernel_rfl
theorem z_68 : zeroIs Tryz.prog 68 2 = true := by kernel_rfl
theorem zc_68 : zeroC Tryz.prog 68 = some ([.int .i64 0, .int .i64 0]) := by kernel_rfl
theorem clone_op {c : World} {h : GH} {L : Own} {v : Value} {ls : List (List Value)} (hs : Sl h v 11 ls) (hsm : ls.length ≤ 1000000):
 Fun Tryz.prog c 202 #[v] h L (fun u _ L' => ∃ N, L' = N ++ L ∧ OS 61 11 u ls N) := by
 refine kF (N := 8) (args := [v]) Tryz.func202 ?_;refine qo ae ?_;refine qg (qd (qo ae ?_));refine qg (qg (eqNil un_23 hs (fun e4 => ?_) ?_))
 ·
  refine qd (qo ae ?_);refine qg (qd ?_);refine ze rfl ?_;exact ⟨[], rfl, by subst e4; exact OS.nil _ _⟩
 ·
  refine qd (qo ae ?_);refine qg (buildSlice0 sl_23 ?_);intro v5 N5 hv5;refine qg (qg (qp sl_23 sl_23 z_61 aa aa kR ar ?_));intro v7 N7 hv7;refine ⟨_, kR.symm, ?_⟩;refine qg (qd ?_);refine DoRet.r1 (.tmp rfl) (qh (List.Sublist.append_left kS _)) zl ?_;exact ⟨N7, rfl, by simpa using hv7⟩
theorem RAll.set {h : GH} {ys : List (Op × Value)} {k : Nat} {o : Op} {pv : Value} (r : RAll h ys) (hp : RIds h pv o.preds) (hw : OpWF o) : RAll h (ys.set k (o, pv)) := fun y hy => by
 rcases List.mem_or_eq_of_mem_set hy with hy | hy
 · exact r y hy
 · subst hy; exact ⟨hp, hw⟩
theorem fst1_set {ys : List (Op × Value)} {k : Nat} {x : Op × Value} {pv : Value} (hx : ys[k]? = some x) : fst1 (ys.set k (x.1, pv)) = fst1 ys := by
 unfold fst1; rw [List.map_set];obtain ⟨hk, e⟩ := List.getElem?_eq_some_iff.1 hx;apply List.ext_getElem am;intro i h1 h2;rw [List.getElem_set];split
 · rename_i e2; subst e2; simp [e]
 · rfl
theorem GOk.preds_le {l : List Op} (h : GOk l) {k : Nat} {o : Op} (hx : l[k]? = some o) : o.preds.length ≤ 4 := (h.opOk (List.mem_of_getElem? hx)).preds
theorem opC_set {E : Nat} {v : Value} {ys : List (Op × Value)} {o : Op} {pv : Value} {N : Own} {k : Nat} (h : OS E 11 v ((ys.map opC).set k (opC2 o pv)) N) : OS E 11 v ((ys.set k (o, pv)).map opC) N := by
 rw [List.map_set]; exact h
theorem gos_copied {c : World} {h : GH} {L : Own} {iv ov : Value} {xs : List (Op × Value)} (hi : RIds h iv ((fst1 xs).map idOf)) (ho : ROps h ov xs) (hG : GOk (fst1 xs)):
 Fun Tryz.prog c 153 #[gV iv ov] h L (fun u h' L' => (∃ g : GrE, u = .agg (grC g).toArray ∧ GR h' g ∧ fst1 g.xs = fst1 xs) ∧ L = L') := by
 have hfl := fst1_len xs;have h60 : xs.length ≤ 60 := by have := hG.small; omega
 refine kF (N := 32) (args := [gV iv ov]) Tryz.func153 ?_;refine qo ae ?_;refine qg (box_at rfl ?_);intro p1 h2 le1 hp1;replace hi := hi.mono le1; replace ho := ho.mono le1;refine qg (qa zc_25 ?_);intro b2;refine qd ?_;refine DoDraw.cutP (fun s0 s' h' L' => ∃ (b3 : Nat) (vi : Value) (vo : Value) (N : Own), s' = [(3, .pointer (some ⟨b3, 0, none⟩))] ++ qR s0 [2] ∧ L'.Perm (N ++ ((b3, .cells [vi, vo].toArray 25 (0, 0)) :: (b2, .cells [.slice none 0 0, .slice none 0 0].toArray 25 (0, 0)) :: L)) ∧ RIds h' vi ((fst1 xs).map idOf) ∧ OS 61 11 vo (xs.map opC) N) ?_ ?_
 ·
  refine DoDraw.intros mixed [0, 1, 3, 4, 2, 5, 6, 7, 8] [[0, 1, 3, 4, 2, 5, 7, 6, 8], [0, 1, 3, 4, 2, 7, 5, 6, 8], [0, 1, 3, 4, 7, 2, 5, 6, 8]] [] ae am (fcons ?_ (fcons ?_ (fcons ?_ (fcons ?_ fnil))))
  ·
   refine qf fi_25_0 aa ?_;intro p5 hp5;refine ql sc_22 aa ?_;refine qf fi_25_1 aa ?_;intro p8 hp8;refine ql sc_23 aa ?_;refine qc (Fun.frozen (by rw [List.length_map, List.length_map, fst1_len]; omega) (clone_id hi (by rw [List.length_map, List.length_map, fst1_len]; omega))) ?_;rintro v7 h4 L_ le3 ⟨rfl, hv7⟩;replace ho := ho.mono le3;refine ⟨am, ?_⟩;refine qc (clone_op ho.sl al) ?_;rintro v10 h6 L_ le5 ⟨N10, rfl, hv10⟩;replace hv7 := hv7.mono le5;refine ⟨am, ?_⟩;refine build_struct zc_25 pl_25 (qy ac (qy ac Parts.nil)) rfl ?_;refine ⟨am, ?_⟩;refine qa zc_25 ?_;intro b3;refine ⟨am, ?_⟩;refine kB (l' := [v7, v10]) si_25 ac ai (show ([v7, v10] : List Value).all oneCell = true by simp [Sl.one hv7, OS.one hv10]) kR ab rfl kR.symm ?_;refine ⟨am, ?_⟩;exact ⟨_, zn, _, _, _, _, rfl, (((zc kR).trans zm.symm).trans (za (kR.trans (zc (kR.trans (zc kR)))))), hv7, hv10⟩
  ·
   refine qf fi_25_0 aa ?_;intro p5 hp5;refine ql sc_22 aa ?_;refine qf fi_25_1 aa ?_;intro p8 hp8;refine ql sc_23 aa ?_;refine qc (Fun.frozen (by rw [List.length_map, List.length_map, fst1_len]; omega) (clone_id hi (by rw [List.length_map, List.length_map, fst1_len]; omega))) ?_;rintro v7 h8 L_ le7 ⟨rfl, hv7⟩;replace ho := ho.mono le7;refine ⟨am, ?_⟩;refine qc (clone_op ho.sl al) ?_;rintro v10 h10 L_ le9 ⟨N10, rfl, hv10⟩;replace hv7 := hv7.mono le9;refine ⟨am, ?_⟩;refine qa zc_25 ?_;intro b3;refine ⟨am, ?_⟩;refine build_struct zc_25 pl_25 (qy ac (qy ac Parts.nil)) rfl ?_;refine ⟨am, ?_⟩;refine kB (l' := [v7, v10]) si_25 ac ai (show ([v7, v10] : List Value).all oneCell = true by simp [Sl.one hv7, OS.one hv10]) kR ab rfl kR.symm ?_;refine ⟨am, ?_⟩;exact ⟨_, zn, _, _, _, _, rfl, (((zc kR).trans zm.symm).trans (za (kR.trans (zc (kR.trans (zc kR)))))), hv7, hv10⟩
  ·
   refine qf fi_25_0 aa ?_;intro p5 hp5;refine ql sc_22 aa ?_;refine qf fi_25_1 aa ?_;intro p8 hp8;refine ql sc_23 aa ?_;refine qc (Fun.frozen (by rw [List.length_map, List.length_map, fst1_len]; omega) (clone_id hi (by rw [List.length_map, List.length_map, fst1_len]; omega))) ?_;rintro v7 h12 L_ le11 ⟨rfl, hv7⟩;replace ho := ho.mono le11;refine ⟨am, ?_⟩;refine qa zc_25 ?_;intro b3;refine ⟨am, ?_⟩;refine qc (clone_op ho.sl al) ?_;rintro v10 h14 L_ le13 ⟨N10, rfl, hv10⟩;replace hv7 := hv7.mono le13;refine ⟨am, ?_⟩;refine build_struct zc_25 pl_25 (qy ac (qy ac Parts.nil)) rfl ?_;refine ⟨am, ?_⟩;refine kB (l' := [v7, v10]) si_25 ac ai (show ([v7, v10] : List Value).all oneCell = true by simp [Sl.one hv7, OS.one hv10]) ((za kR).trans zm) ab rfl ((za kR).trans zm).symm ?_;refine ⟨am, ?_⟩;exact ⟨_, zn, _, _, _, _, rfl, (kR.trans (za (kR.trans (zc (kR.trans (zc kR)))))), hv7, hv10⟩
  ·
   refine qf fi_25_0 aa ?_;intro p5 hp5;refine ql sc_22 aa ?_;refine qf fi_25_1 aa ?_;intro p8 hp8;refine ql sc_23 aa ?_;refine qa zc_25 ?_;intro b3;refine ⟨am, ?_⟩;refine qc (Fun.frozen (by rw [List.length_map, List.length_map, fst1_len]; omega) (clone_id hi (by rw [List.length_map, List.length_map, fst1_len]; omega))) ?_;rintro v7 h16 L_ le15 ⟨rfl, hv7⟩;replace ho := ho.mono le15;refine ⟨am, ?_⟩;refine qc (clone_op ho.sl al) ?_;rintro v10 h18 L_ le17 ⟨N10, rfl, hv10⟩;replace hv7 := hv7.mono le17;refine ⟨am, ?_⟩;refine build_struct zc_25 pl_25 (qy ac (qy ac Parts.nil)) rfl ?_;refine ⟨am, ?_⟩;refine kB (l' := [v7, v10]) si_25 ac ai (show ([v7, v10] : List Value).all oneCell = true by simp [Sl.one hv7, OS.one hv10]) ((za kR).trans zm) ab rfl ((za kR).trans zm).symm ?_;refine ⟨am, ?_⟩;exact ⟨_, zn, _, _, _, _, rfl, (kR.trans (za (kR.trans (zc (kR.trans (zc kR)))))), hv7, hv10⟩
 ·
  rintro s1 h19 L_ le20 ⟨b3, vi, vo, N, rfl, hpm, hvi, hvo⟩;refine ⟨_, hpm, ?_⟩;replace ho := ho.mono le20;refine qo ae ?_;refine qg (qw fi_25_1 ?_);refine qg (qO (v := vo) sc_23 (zq kH) rfl ?_);refine qg (len_os sl_23 aa ?_);refine qg (qd ?_);refine qL (fun s0 nn s' h' L' => ∃ (k : Nat) (ys : List (Op × Value)) (N : Own), s' = [(15, .int .i64 k)] ++ qR s0 [2, 3, 14] ∧ nn = xs.length - k ∧ N ++ ((b3, .cells [vi, vo].toArray 25 (0, 0)) :: (b2, .cells [.slice none 0 0, .slice none 0 0].toArray 25 (0, 0)) :: L) = L' ∧ k ≤ xs.length ∧ OS 61 11 vo (ys.map opC) N ∧ RAll h' ys ∧ fst1 ys = fst1 xs) ⟨0, xs, N, rfl, rfl, rfl, ?_⟩ zg zl zn ?_
  · exact ⟨Nat.zero_le _, hvo, ho.each, rfl⟩
  rintro nn s1 h21 L_ le22 ⟨k, ys, N, rfl, rfl, rfl, hk, hvo, hys, hfy⟩;replace hvi := hvi.mono le22;refine qo ae ?_;refine qg (lssB (fun c16 => ?_) (fun c16 => ?_))
  ·
   have hyl : ys.length = xs.length := by have h9 := congrArg List.length hfy; rw [fst1_len, fst1_len] at h9; exact h9
   rw [List.length_map] at c16;have hkl : k < ys.length := by omega
   obtain ⟨x, hx, hfx⟩ := fst1_get hkl;have hrx := hys x (List.mem_of_getElem? hx);have hrp := hrx.preds;have hpl := hG.preds_le (by rw [← hfy]; exact hfx);refine qd (qo ae ?_);refine qg (qg (qd ?_));refine qD mixed [12] [0, 1, 2, 3, 4, 5, 6, 7, 8, 9, 10, 11, 12] (_ :: (N ++ [])) ae (qq (zq kH) (sub_app (fun e he => (List.mem_append_left _ he)) sub_nil)) ?_;refine qr rfl rfl rfl (qw fi_25_1 ?_);refine qr rfl rfl rfl (qO (v := vo) sc_23 kH rfl ?_);refine qr rfl rfl rfl (qr rfl rfl rfl (qw fi_25_1 ?_));refine qr rfl rfl rfl (qO (v := vo) sc_23 kH rfl ?_);refine qr rfl rfl rfl (qr rfl rfl rfl (index_os (k := _) sl_23 aa ao (by first | omega | (simp; omega) | (simp [*]; done)) ?_));intro p24 hp24;refine qr rfl rfl rfl (field_os fi_61_1 aa ?_);intro p25 hp25;refine qr rfl rfl rfl (load_os1 sc_22 aa aa (fun e he => (kT (List.mem_append_left _ he))) (map_get hx) rfl ?_);refine qj rfl rfl rfl ?_;refine qc (Fun.frozen al (clone_id hrp al)) ?_;rintro v27 h24 L_ le23 ⟨rfl, hv27⟩;replace hys := hys.mono le23;refine ⟨(qq (zq kH) (sub_app (fun e he => (List.mem_append_left _ he)) sub_nil)), ?_⟩;refine qr rfl rfl rfl (index_os (k := _) sl_23 aa ao (by first | omega | (simp; omega) | (simp [*]; done)) ?_);intro p28 hp28;refine qr rfl rfl rfl (field_os fi_61_1 aa ?_);intro p29 hp29;refine DoDr.drop rfl rfl rfl ?_;refine store_os si_22 ac ai ad aa hvo (by first | assumption | exact map_get aa) kR ab rfl ?_;clear hvo; intro M25 hvo; refine ⟨_, kR.symm, ?_⟩;refine qe zf ?_;refine qo ae ?_;refine qg (qA ak ?_);refine qg (qd ?_);exact back (m := _) ⟨k + 1, ys.set k (x.1, v27), _, rfl, rfl, rfl, by omega, opC_set hvo, hys.set hv27 hrx.wf, by rw [fst1_set hx, hfy]⟩ af zg zl zn
  ·
   have hyl : ys.length = xs.length := by have h9 := congrArg List.length hfy; rw [fst1_len, fst1_len] at h9; exact h9
   refine qd (qo ae ?_);refine qg (qx (r := [vi, vo]) ag_25 (zq kH) ab rfl ?_);refine qg (kB (l' := [vi, vo]) si_25 ac ai (show ([vi, vo] : List Value).all oneCell = true by simp [Sl.one hvi, OS.one hvo]) ((za ((zc kR).trans zw)).trans zm) ab rfl ((za ((zc kR).trans zw)).trans zm).symm ?_);refine qd ?_;refine DoRet.freeze hvo al kR ?_;intro h26 le27 hvo;replace hvi := hvi.mono le27; replace hys := hys.mono le27;refine DoRet.r1 (.cell rfl (qx ag_25 (kT kH) ab an rfl)) (qh (zu (zu kS))) zl ?_;exact ⟨⟨⟨vi, vo, ys⟩, rfl, ⟨by rw [hfy]; exact hvi, ⟨hvo, hys⟩⟩, hfy⟩, rfl⟩
def RAllG (h : GH) (gs : List GrE) : Prop := ∀ g ∈ gs, GR h g
theorem RAllG.mono {h h' : GH} {gs : List GrE} (hle : GH.le h h') (r : RAllG h gs) : RAllG h' gs := fun g hg => (r g hg).mono hle
theorem RAllG.nil (h : GH) : RAllG h [] := fun _ hy => by cases hy
theorem RAllG.snoc {h : GH} {gs : List GrE} {g : GrE} (r : RAllG h gs) (hg : GR h g) : RAllG h (gs ++ [g]) := fun y hy => by
 rcases List.mem_append.1 hy with hy | hy
 · exact r y hy
 · have : y = g := by simpa using hy
   subst this; exact hg
theorem RAllG.set {h : GH} {gs : List GrE} {g : GrE} {k : Nat} (r : RAllG h gs) (hg : GR h g) : RAllG h (gs.set k g) := fun y hy => by
 rcases List.mem_or_eq_of_mem_set hy with hy | hy
 · exact r y hy
 · subst hy; exact hg
def opsG (gs : List GrE) : List (List Op) := gs.map fun g => fst1 g.xs
theorem grC_snoc {E : Nat} {v : Value} {gs : List GrE} {g : GrE} {N : Own} (h : OS E 2 v (gs.map grC ++ [grC g]) N) : OS E 2 v ((gs ++ [g]).map grC) N := by rw [List.map_append]; exact h
theorem grC_set {E : Nat} {v : Value} {gs : List GrE} {g : GrE} {N : Own} {k : Nat} (h : OS E 2 v ((gs.map grC).set k (grC g)) N) : OS E 2 v ((gs.set k g).map grC) N := by rw [List.map_set]; exact h
theorem opsG_snoc (gs : List GrE) (g : GrE) : opsG (gs ++ [g]) = opsG gs ++ [fst1 g.xs] := by simp [opsG]
theorem opsG_len (gs : List GrE) : (opsG gs).length = gs.length := by simp [opsG]
theorem opsG_get {gs : List GrE} {k : Nat} {g : GrE} (h : gs[k]? = some g) : (opsG gs)[k]? = some (fst1 g.xs) := map_get (f := fun g : GrE => fst1 g.xs) h
theorem opsG_set (gs : List GrE) (k : Nat) (g : GrE) : opsG (gs.set k g) = (opsG gs).set k (fst1 g.xs) := by simp [opsG, List.map_set]
theorem gos_all {c : World} {h : GH} {L : Own} {v : Value} {gs : List GrE} (hs : RGs h v gs) (hG : ∀ g ∈ gs, GOk (fst1 g.xs)) (h5 : gs.length ≤ 5):
 Fun Tryz.prog c 101 #[v] h L (fun u h' L' => ∃ N, L' = N ++ L ∧ ∃ ys, OS 25 2 u (ys.map grC) N ∧ RAllG h' ys ∧ opsG ys = opsG gs) := by
 refine kF (N := 19) (args := [v]) Tryz.func101 ?_;refine qo ae ?_;refine qg (qd (qo ae ?_));refine qg (qd (qo ae ?_));refine qg (qg (qm sl_34 hs.sl ?_));refine qg (qd ?_);refine qL (fun s0 nn s' h' L' => ∃ (k : Nat) (v : Value) (N : Own) (ys : List GrE), s' = [(3, v), (8, .int .i64 k)] ++ qR s0 [6, 7] ∧ nn = gs.length - k ∧ N ++ L = L' ∧ k ≤ gs.length ∧ OS 25 2 v (ys.map grC) N ∧ RAllG h' ys ∧ opsG ys = (opsG gs).take k) ⟨0, _, [], [], rfl, rfl, rfl, ?_⟩ zg zl zn ?_
 · exact ⟨Nat.zero_le _, OS.nil _ _, RAllG.nil _, by simp [opsG]⟩
 rintro nn s1 h1 L_ le2 ⟨k, v, N, ys, rfl, rfl, rfl, hk, hv, hys, hfy⟩;replace hs := hs.mono le2;refine qo ae ?_;refine qg (lssB (fun c9 => ?_) (fun c9 => ?_))
 ·
  have hkl : k < gs.length := by omega
  obtain ⟨x, hx⟩ := qE hkl;have hr := hs.each x (List.mem_of_getElem? hx);have hyl : ys.length = k := by have h9 := congrArg List.length hfy; rw [opsG_len, List.length_take, opsG_len] at h9; omega
  have hts := takeS (opsG_get hx);refine qd (qo ae ?_);refine qg (qi (k := k) sl_34 hs.sl rfl hx ?_);intro p10 r10 hl10 hp10;refine qg (qP ag_25 aa aa ?_);refine qg (qa zc_25 ?_);intro b5;refine qg (kB (l' := grC x) si_25 ac ai (grC_one hr) kR ab rfl kR.symm ?_);refine qd (qo ae ?_);refine qg (qg (qx (r := grC x) ag_25 kH ab rfl ?_));refine qg (qc (gos_copied (iv := x.iv) (ov := x.ov) hr.ids hr.ops (hG x (List.mem_of_getElem? hx))) ?_);rintro v14 h4 L_ le3 ⟨⟨g14, rfl, hg14, hf14⟩, rfl⟩;replace hys := hys.mono le3;refine qg (qB sl_34 z_25 rfl ag ah (grC_one hg14) ?_);intro v15 h6 le5 hv15;replace hys := hys.mono le5; replace hg14 := hg14.mono le5;refine qg (qp sl_34 sl_34 z_25 aa aa ((zc kR).trans zm.symm) ar ?_);intro v16 N16 hv16;refine ⟨_, ((zc kR).trans zm.symm).symm, ?_⟩;refine qg (qd (qo ae ?_));refine qg (qA ak ?_);refine qg (qd ?_);exact back (m := _) ⟨k + 1, _, _, ys ++ [g14], rfl, rfl, rfl, by omega, grC_snoc hv16, hys.snoc hg14, by rw [opsG_snoc, hfy, hts, hf14]⟩ af (qh (zu (List.Sublist.append_left kS _))) zl zn
 ·
  refine qd (qo ae ?_);refine qg (qg (qd ?_));refine DoRet.r1 (.tmp rfl) (qh (List.Sublist.append_left kS _)) zl ?_;have hke : k = gs.length := by omega
  rw [List.take_of_length_le (by rw [opsG_len]; omega)] at hfy;exact ⟨N, rfl, ys, hv, hys, hfy⟩
theorem gos_two {c : World} {h : GH} {L : Own} {n a b : Nat} (ha : a < n) (hb : b < n) (hab : a ≠ b) (hn : n ≤ 5):
 Fun Tryz.prog c 154 #[.int .i64 (n : Int), .agg [.int .i64 (a : Int), .int .i64 (b : Int)].toArray] h L (fun u _ L' => u = .bool true ∧ L = L') := by
 refine kF (N := 27) (args := [.int .i64 (n : Int), .agg [.int .i64 (a : Int), .int .i64 (b : Int)].toArray]) Tryz.func154 ?_;refine qo ae ?_;refine qg (box_at rfl ?_);intro p3 h2 le1 hp3;refine qg (qd (qo ae ?_));refine qg (qf fi_68_0 aa ?_);intro p5 hp5;refine qg (ql sc_3 aa ?_);refine qg (qf fi_68_1 aa ?_);intro p7 hp7;refine qg (ql sc_3 aa ?_);refine qg (min_int ?_);refine qg (geqB (fun c10 => ?_) (fun c10 => ?_))
 ·
  refine qg (qT rfl rfl ?_);refine qf fi_68_0 aa ?_;intro p12 hp12;refine qT rfl rfl ?_;refine ql sc_3 aa ?_;refine qT rfl rfl ?_;refine qf fi_68_1 aa ?_;intro p14 hp14;refine qT rfl rfl ?_;refine ql sc_3 aa ?_;refine qT rfl rfl ?_;refine max_int ?_;refine qT rfl rfl ?_;refine qT rfl rfl ?_;refine lssB (fun c18 => ?_) (fun c18 => ?_)
  ·
   refine qg (qg (qT rfl rfl ?_));refine qf fi_68_0 aa ?_;intro p21 hp21;refine qT rfl rfl ?_;refine ql sc_3 aa ?_;refine qT rfl rfl ?_;refine qf fi_68_1 aa ?_;intro p23 hp23;refine qT rfl rfl ?_;refine ql sc_3 aa ?_;refine qT rfl rfl ?_;refine neqB (fun c25 => ?_) (fun c25 => ?_)
   ·
    refine qg (qg (qd ?_));refine ze rfl ?_;exact ⟨rfl, rfl⟩
   ·
    omega
  ·
   omega
 ·
  omega
theorem gos_meet {c : World} {h : GH} {L : Own} {v : Value} {gs : List GrE} {N : Own} {a b : Nat} {x y : GrE} (hg : GK h) (hv : OS 25 2 v (gs.map grC) N) (hgs : RAllG h gs) (h5 : gs.length ≤ 5) (hx : gs[a]? = some x) (hy : gs[b]? = some y) (hab : a ≠ b) (hGx : GOk (fst1 x.xs)) (hGy : GOk (fst1 y.xs)) (hA : Apt (fst1 x.xs ++ fst1 y.xs)) (hGu : GOk (unionO (fst1 x.xs) (fst1 y.xs))):
 Fun Tryz.prog c 102 #[v, .agg [.int .i64 (a : Int), .int .i64 (b : Int)].toArray] h (N ++ L) (fun u h' L' => ∃ N', L' = N' ++ L ∧ u = .int .i64 0 ∧ ∃ gs', OS 25 2 v (gs'.map grC) N' ∧ RAllG h' gs' ∧ opsG gs' = ((opsG gs).set a (unionO (fst1 x.xs) (fst1 y.xs))).set b (unionO (fst1 x.xs) (fst1 y.xs))) := by
 have ha : a < gs.length := (List.getElem?_eq_some_iff.1 hx).1;have hb : b < gs.length := (List.getElem?_eq_some_iff.1 hy).1;have hmx := List.mem_of_getElem? hx;have hmy := List.mem_of_getElem? hy;have hu60 : (unionO (fst1 x.xs) (fst1 y.xs)).length ≤ 60 := hGu.small;refine kF (N := 40) (args := [v, .agg [.int .i64 (a : Int), .int .i64 (b : Int)].toArray]) Tryz.func102 ?_;refine qo ae ?_;refine qg (box_at rfl ?_);intro p3 h2 le1 hp3;replace hg := hg.mono le1; replace hgs := hgs.mono le1;refine qg (qd (qo ae ?_));refine qg (qg (len_os sl_34 hv ?_));refine qg (qX ag_68 aa ag ?_);refine qg (qc (gos_two (n := (gs.map grC).length) (a := a) (b := b) (by rw [List.length_map]; exact ha) (by rw [List.length_map]; exact hb) hab (by rw [List.length_map]; exact h5)) ?_);rintro v10 h4 L_ le3 ⟨rfl, rfl⟩;replace hg := hg.mono le3; replace hgs := hgs.mono le3; replace hp3 := hp3.mono le3;refine qg (not_tt ?_);refine qd ?_;refine DoDraw.cut (fun s0 s' h' L' => ∃ (b5 : Nat) (g : GrE), s' = [(5, .pointer (some ⟨b5, 0, none⟩)), (6, .int .i64 0)] ++ qR s0 [0, 3] ∧ (b5, .cells (grC g).toArray 25 (0, 0)) :: (N ++ L) = L' ∧ GR h' g ∧ fst1 g.xs = (unionO (fst1 x.xs) (fst1 y.xs))) ?_ ?_
 ·
  refine D5.intros3 mixed [0, 1, 2, 3, 4, 5, 6, 7, 8, 9, 10, 11, 12, 13, 14, 15, 16] [[0, 1, 2, 3, 4, 5, 6, 7, 8, 9, 14, 10, 11, 12, 13, 15, 16]] (N ++ []) ae (sub_app (fun e he => (List.mem_append_left _ he)) sub_nil) (fcons ?_ (fcons ?_ fnil))
  ·
   refine qf fi_68_0 aa ?_;intro p14 hp14;refine ql sc_3 aa ?_;refine index_os (k := _) sl_34 aa ao (by first | omega | (simp; omega) | (simp [*]; done)) ?_;intro p16 hp16;refine load_osX (r := grC x) ag_25 aa aa (fun e he => (List.mem_append_left _ he)) (map_get hx) ab rfl ?_;refine qf fi_68_1 aa ?_;intro p19 hp19;refine ql sc_3 aa ?_;refine index_os (k := _) sl_34 aa ao (by first | omega | (simp; omega) | (simp [*]; done)) ?_;intro p21 hp21;refine load_osX (r := grC y) ag_25 aa aa (fun e he => (List.mem_append_left _ he)) (map_get hy) ab rfl ?_;refine qc (dag_union (iv1 := x.iv) (ov1 := x.ov) (iv2 := y.iv) (ov2 := y.ov) (xs := x.xs) (ys := y.xs) hg (hgs x hmx).ids (hgs x hmx).ops hGx (hgs y hmy).ids (hgs y hmy).ops hGy hA hu60) ?_;rintro v23 h6 L_ le5 ⟨⟨g23, rfl, hg23, hf23⟩, rfl⟩;refine ⟨(sub_app (fun e he => (List.mem_append_left _ he)) sub_nil), ?_⟩;refine qa zc_25 ?_;intro b5;refine ⟨(sub_app (fun e he => (kT (List.mem_append_left _ he))) sub_nil), ?_⟩;refine kB (l' := grC g23) si_25 ac ai (grC_one hg23) kR ab rfl kR.symm ?_;refine ⟨(sub_app (fun e he => (kT (List.mem_append_left _ he))) sub_nil), ?_⟩;exact ⟨_, zn, _, _, rfl, rfl, hg23, hf23⟩
  ·
   refine qf fi_68_0 aa ?_;intro p14 hp14;refine ql sc_3 aa ?_;refine index_os (k := _) sl_34 aa ao (by first | omega | (simp; omega) | (simp [*]; done)) ?_;intro p16 hp16;refine load_osX (r := grC x) ag_25 aa aa (fun e he => (List.mem_append_left _ he)) (map_get hx) ab rfl ?_;refine qf fi_68_1 aa ?_;intro p19 hp19;refine ql sc_3 aa ?_;refine index_os (k := _) sl_34 aa ao (by first | omega | (simp; omega) | (simp [*]; done)) ?_;intro p21 hp21;refine load_osX (r := grC y) ag_25 aa aa (fun e he => (List.mem_append_left _ he)) (map_get hy) ab rfl ?_;refine qa zc_25 ?_;intro b5;refine ⟨(sub_app (fun e he => (kT (List.mem_append_left _ he))) sub_nil), ?_⟩;refine qc (dag_union (iv1 := x.iv) (ov1 := x.ov) (iv2 := y.iv) (ov2 := y.ov) (xs := x.xs) (ys := y.xs) hg (hgs x hmx).ids (hgs x hmx).ops hGx (hgs y hmy).ids (hgs y hmy).ops hGy hA hu60) ?_;rintro v23 h8 L_ le7 ⟨⟨g23, rfl, hg23, hf23⟩, rfl⟩;refine ⟨(sub_app (fun e he => (kT (List.mem_append_left _ he))) sub_nil), ?_⟩;refine kB (l' := grC g23) si_25 ac ai (grC_one hg23) kR ab rfl kR.symm ?_;refine ⟨(sub_app (fun e he => (kT (List.mem_append_left _ he))) sub_nil), ?_⟩;exact ⟨_, zn, _, _, rfl, rfl, hg23, hf23⟩
 ·
  rintro s1 h9 L_ le10 ⟨b5, g, rfl, rfl, hgr, hfg⟩;replace hgs := hgs.mono le10; replace hp3 := hp3.mono le10;refine qo ae ?_;refine qg (qg (neqB (fun c27 => ?_) (fun c27 => ?_)))
  ·
   omega
  ·
   refine qd ?_;refine qD mixed [] [0, 1, 2, 3, 4, 5, 6, 7, 8, 9, 10, 11, 12] (_ :: []) ae (qq kH sub_nil) ?_;refine qr rfl rfl rfl (qr rfl rfl rfl (qf fi_68_0 aa ?_));intro p30 hp30;refine qr rfl rfl rfl (ql sc_3 aa ?_);refine qr rfl rfl rfl (qr rfl rfl rfl (qf fi_68_1 aa ?_));intro p33 hp33;refine qr rfl rfl rfl (ql sc_3 aa ?_);refine qr rfl rfl rfl (qx (r := grC g) ag_25 kH ab rfl ?_);refine qr rfl rfl rfl (qx (r := grC g) ag_25 kH ab rfl ?_);refine qj rfl rfl rfl ?_;refine qc (gos_copied (iv := g.iv) (ov := g.ov) hgr.ids hgr.ops (by rw [hfg]; exact hGu)) ?_;rintro v37 h12 L_ le11 ⟨⟨g37, rfl, hg37, hf37⟩, rfl⟩;replace hgs := hgs.mono le11; replace hgr := hgr.mono le11;refine ⟨(qq kH sub_nil), ?_⟩;refine qr rfl rfl rfl (index_os (k := _) sl_34 aa ao (by first | omega | (simp; omega) | (simp [*]; done)) ?_);intro p38 hp38;refine qj rfl rfl rfl ?_;refine store_os si_25 ac ai (grC_one hgr) aa hv (map_get hx) ((zc kR).trans zm.symm) ab (show over (grC x) 0 (grC g) = grC g from rfl) ?_;clear hv; intro M13 hv; refine ⟨_, ((zc kR).trans zm.symm).symm, ?_⟩;refine ⟨(qq kH sub_nil), ?_⟩;refine qr rfl rfl rfl (index_os (k := _) sl_34 aa ao (by first | omega | (simp; omega) | (simp [*]; done)) ?_);intro p39 hp39;refine qj rfl rfl rfl ?_;refine store_os si_25 ac ai (grC_one hg37) aa hv (show ((gs.map grC).set a (grC g))[b]? = some (grC y) by rw [List.getElem?_set_ne hab]; exact map_get hy) ((zc kR).trans zm.symm) ab (show over (grC y) 0 (grC g37) = grC g37 from rfl) ?_;clear hv; intro M14 hv; refine ⟨_, ((zc kR).trans zm.symm).symm, ?_⟩;refine ⟨(qq kH sub_nil), ?_⟩;refine qe zf ?_;refine qo ae ?_;refine qg (qd ?_);refine DoRet.r1 (.tmp rfl) (qh (zu (List.Sublist.append_left kS _))) zl ?_;exact ⟨M14, rfl, rfl, (gs.set a g).set b g37, by rw [List.map_set, List.map_set]; exact hv, (hgs.set hgr).set hg37, by rw [opsG_set, opsG_set, hf37, hfg]⟩
def metO (l : List (List Op)) (a b : Nat) (x y : List Op) : List (List Op) := (l.set a (unionO x y)).set b (unionO x y)
theorem opsG_at {gs ys : List GrE} (e : opsG ys = opsG gs) {k : Nat} {x : GrE} (hx : gs[k]? = some x) : ∃ y, ys[k]? = some y ∧ fst1 y.xs = fst1 x.xs := by
 have h1 := opsG_get hx;rw [← e] at h1;unfold opsG at h1;rw [List.getElem?_map] at h1;cases hy : ys[k]? with
 | none => rw [hy] at h1; cases h1
 | some y => rw [hy] at h1; exact ⟨y, rfl, by simpa using h1⟩
theorem apt_two {gs : List GrE} {x y : GrE} (hA : Apt (allOps gs)) (hx : x ∈ gs) (hy : y ∈ gs) : Apt (fst1 x.xs ++ fst1 y.xs) := fun a ha b hb e => hA a (by
 rcases List.mem_append.1 ha with h | h
 · exact mem_allOps hx h
 · exact mem_allOps hy h) b (by
 rcases List.mem_append.1 hb with h | h
 · exact mem_allOps hx h
 · exact mem_allOps hy h) e
theorem gos_run {c : World} {h : GH} {L : Own} {v m : Value} {gs : List GrE} {a b : Nat} {x y : GrE} (hg : GK h) (hs : RGs h v gs) (hG : ∀ g ∈ gs, GOk (fst1 g.xs)) (h5 : gs.length ≤ 5) (hA : Apt (allOps gs)) (hm : Sl h m 2 [[.int .i64 (a : Int), .int .i64 (b : Int)]]) (hx : gs[a]? = some x) (hy : gs[b]? = some y) (hab : a ≠ b) (hGu : GOk (unionO (fst1 x.xs) (fst1 y.xs))):
 Fun Tryz.prog c 58 #[v, m] h L (fun u h' L' => ∃ N', L' = N' ++ L ∧ ∃ z, u = .tuple #[z, .int .i64 0] ∧ ∃ gs', OS 25 2 z (gs'.map grC) N' ∧ RAllG h' gs' ∧ opsG gs' = metO (opsG gs) a b (fst1 x.xs) (fst1 y.xs)) := by
 refine kF (N := 35) (args := [v, m]) Tryz.func58 ?_;refine qo ae ?_;refine qg (qg (qd (qo ae ?_)));refine qg (qg (qc (conv_check hg hs hG h5 hA) ?_));rintro v12 h2 L_ le1 ⟨rfl, rfl⟩;replace hg := hg.mono le1; replace hs := hs.mono le1; replace hm := hm.mono le1;refine qg (qd (qo ae ?_));refine qg (qg (neqB (fun c14 => ?_) (fun c14 => ?_)))
 ·
  omega
 ·
  refine qd (qo ae ?_);refine qg (qg (len_sl sl_122 hm ?_));refine qg (gtrB (fun c18 => ?_) (fun c18 => ?_))
  ·
   simp at c18
  ·
   refine qd (qo ae ?_);refine qg (qg (qc (gos_all hs hG h5) ?_));rintro v20 h4 L_ le3 ⟨N20, rfl, ys20, hv20, hys20, hf20⟩;replace hg := hg.mono le3; replace hm := hm.mono le3;refine qg (qd (qo ae ?_));refine qg (qg (len_sl sl_122 hm ?_));refine qg (qd ?_);refine qL (fun s0 nn s' h' L' => ∃ (k : Nat) (N : Own) (ys : List GrE), s' = [(23, .int .i64 k)] ++ qR s0 [7, 21, 22] ∧ nn = 1 - k ∧ N ++ L = L' ∧ k ≤ 1 ∧ OS 25 2 v20 (ys.map grC) N ∧ RAllG h' ys ∧ (k = 0 → opsG ys = opsG gs) ∧ (k = 1 → opsG ys = metO (opsG gs) a b (fst1 x.xs) (fst1 y.xs))) ⟨0, N20, ys20, rfl, rfl, rfl, ?_⟩ zg zl zn ?_
   · exact ⟨Nat.zero_le _, hv20, hys20, fun _ => hf20, fun h => by cases h⟩
   rintro nn s1 h5 L_ le6 ⟨k, N, ys, rfl, rfl, rfl, hk, hv, hys, hf0, hf1⟩;replace hg := hg.mono le6; replace hm := hm.mono le6;refine qo ae ?_;refine qg (lssB (fun c24 => ?_) (fun c24 => ?_))
   ·
    have hk0 : k = 0 := by simp at c24; omega
    subst hk0;have hfy := hf0 rfl;obtain ⟨x1, hx1, ex⟩ := opsG_at hfy hx;obtain ⟨y1, hy1, ey⟩ := opsG_at hfy hy;have hmx := List.mem_of_getElem? hx;have hmy := List.mem_of_getElem? hy;have hyl : ys.length = gs.length := by have h9 := congrArg List.length hfy; rw [opsG_len, opsG_len] at h9; exact h9
    refine qd (qo ae ?_);refine qg (index_at (k := 0) sl_122 hm rfl rfl ?_);intro p25 r25 hp25;refine qg (load_aggT ag_68 aa ab ?_);refine qg (qa zc_68 ?_);intro b9;refine qg (kB si_68 ac ai ad kR ab rfl kR.symm ?_);refine qd (qo ae ?_);refine qg (qg (qx ag_68 kH ab an ?_));refine qg (qG ((zc kR).trans zm.symm) (gos_meet (a := a) (b := b) hg hv hys af hx1 hy1 hab (by rw [ex]; exact hG x hmx) (by rw [ey]; exact hG y hmy) (by rw [ex, ey]; exact apt_two hA hmx hmy) (by rw [ex, ey]; exact hGu)) ?_);rintro v29 h8 N29 le7 ⟨rfl, ys29, hv29, hys29, hf29⟩;refine ⟨_, ((zc kR).trans zm.symm).symm, ?_⟩;refine qg (qd (qo ae ?_));refine qg (qg (neqB (fun c31 => ?_) (fun c31 => ?_)))
    ·
     omega
    ·
     refine qd (qo ae ?_);refine qg (qA ak ?_);refine qg (qd ?_);have hf29b : opsG ys29 = metO (opsG gs) a b (fst1 x.xs) (fst1 y.xs) := by rw [hf29, hfy, ex, ey]; rfl
     exact back (m := _) ⟨0 + 1, N29, ys29, rfl, rfl, rfl, by omega, hv29, hys29, (fun h => absurd h ah), (fun _ => hf29b)⟩ af (qh (zu (List.Sublist.append_left kS _))) zl zn
   ·
    refine qd (qo ae ?_);refine qg (qg (qg (qd ?_)));refine DoRet.r2 (.tmp rfl) (.tmp rfl) (qh (List.Sublist.append_left kS _)) zl ?_;have hk1 : k = 1 := by simp at c24; omega
    exact ⟨N, rfl, v20, rfl, ys, hv, hys, hf1 hk1⟩
theorem gos_once {c : World} {h : GH} {L : Own} {v : Value} {gs : List GrE} {a b : Nat} {x y : GrE} (hg : GK h) (hs : RGs h v gs) (hG : ∀ g ∈ gs, GOk (fst1 g.xs)) (h5 : gs.length ≤ 5) (hA : Apt (allOps gs)) (hx : gs[a]? = some x) (hy : gs[b]? = some y) (hab : a ≠ b) (hGu : GOk (unionO (fst1 x.xs) (fst1 y.xs))):
 Fun Tryz.prog c 20 #[v, .agg [.int .i64 (a : Int), .int .i64 (b : Int)].toArray] h L (fun u h' L' => ∃ N', L' = N' ++ L ∧ ∃ z, u = .tuple #[z, .int .i64 0] ∧ ∃ gs', OS 25 2 z (gs'.map grC) N' ∧ RAllG h' gs' ∧ opsG gs' = metO (opsG gs) a b (fst1 x.xs) (fst1 y.xs)) := by
 refine kF (N := 12) (args := [v, .agg [.int .i64 (a : Int), .int .i64 (b : Int)].toArray]) Tryz.func20 ?_;refine qo ae ?_;refine qg (box_at rfl ?_);intro p3 h2 le1 hp3;replace hg := hg.mono le1; replace hs := hs.mono le1;refine qg (qg (qd (qo ae ?_)));refine qg (qg (qX ag_68 aa ag ?_));refine qg (qB sl_122 z_68 rfl ag ah rfl ?_);intro v8 h4 le3 hv8;replace hg := hg.mono le3; replace hs := hs.mono le3;refine qg (qc (gos_run (a := a) (b := b) hg hs hG h5 hA hv8 hx hy hab hGu) ?_);rintro v9 h6 L_ le5 ⟨N9, rfl, z9, rfl, ys9, hv9, hys9, hf9⟩;refine qg (qg (qg (qg (qd ?_))));refine DoRet.r2 (.tmp rfl) (.tmp rfl) (qh (List.Sublist.append_left kS _)) zl ?_;exact ⟨N9, rfl, z9, rfl, ys9, hv9, hys9, hf9⟩
theorem conv_Same {c : World} {h : GH} {L : Own} {v : Value} {gs : List GrE} {l : List Op} (hg : GK h) (hs : RGs h v gs) (hG : ∀ g ∈ gs, GOk (fst1 g.xs)) (h5 : gs.length ≤ 5) (hA : Apt (allOps gs)) (hl : ∀ g ∈ gs, fst1 g.xs = l):
 Fun Tryz.prog c 21 #[v] h L (fun u _ L' => u = .tuple #[.bool true, .int .i64 0] ∧ L = L') := by
 refine kF (N := 27) (args := [v]) Tryz.func21 ?_;refine qo ae ?_;refine qg (qg (qd (qo ae ?_)));refine qg (qg (qc (conv_check hg hs hG h5 hA) ?_));rintro v8 h2 L_ le1 ⟨rfl, rfl⟩;replace hs := hs.mono le1;refine qg (qd (qo ae ?_));refine qg (qg (neqB (fun c10 => ?_) (fun c10 => ?_)))
 ·
  omega
 ·
  refine qd (qo ae ?_);refine qg (qg (qm sl_34 hs.sl ?_));refine qg (qd ?_);refine qL (fun s0 nn s' h' L' => ∃ (k : Nat), s' = [(14, .int .i64 k)] ++ qR s0 [0, 12, 13] ∧ nn = gs.length - k ∧ L = L' ∧ k ≤ gs.length) ⟨0, rfl, rfl, rfl, ?_⟩ zg zl zn ?_
  · exact Nat.zero_le _
  rintro nn s1 h3 L_ le4 ⟨k, rfl, rfl, rfl, hk⟩;replace hs := hs.mono le4;refine qo ae ?_;refine qg (lssB (fun c15 => ?_) (fun c15 => ?_))
  ·
   have hkl : k < gs.length := by omega
   obtain ⟨x, hx⟩ := qE hkl;obtain ⟨x0, hx0⟩ := qE (l := gs) (k := 0) af;have hr := hs.each x (List.mem_of_getElem? hx);have hr0 := hs.each x0 (List.mem_of_getElem? hx0);refine qd (qo ae ?_);refine qg (qi (k := k) sl_34 hs.sl rfl hx ?_);intro p16 r16 hl16 hp16;refine qg (qP ag_25 aa aa ?_);refine qg (qa zc_25 ?_);intro b6;refine qg (kB (l' := grC x) si_25 ac ai (grC_one hr) kR ab rfl kR.symm ?_);refine qd ?_;refine qD mixed [] [0, 1, 2, 3, 4, 5, 6, 7] (_ :: []) ae (qq kH sub_nil) ?_;refine qr rfl rfl rfl (qw fi_25_0 ?_);refine qr rfl rfl rfl (qO (v := x.iv) sc_22 kH rfl ?_);refine qr rfl rfl rfl (qr rfl rfl rfl (qi (k := 0) sl_34 hs.sl rfl hx0 ?_));intro p21 r21 hl21 hp21;refine qr rfl rfl rfl (qf fi_25_0 aa ?_);intro p22 hp22;refine qr rfl rfl rfl (ql sc_22 aa ?_);refine qj rfl rfl rfl ?_;refine qc (equal_ids hr.ids (show RIds _ x0.iv ((fst1 x.xs).map idOf) by rw [hl x (List.mem_of_getElem? hx), ← hl x0 (List.mem_of_getElem? hx0)]; exact hr0.ids)) ?_;rintro v24 h6 L_ le5 ⟨rfl, rfl⟩;rw [decide_eq_true rfl];refine ⟨(qq kH sub_nil), ?_⟩;refine qr rfl rfl rfl (not_tt ?_);refine qe zf ?_;refine qo ae ?_;refine qg (qA ak ?_);refine qg (qd ?_);exact back (m := _) ⟨k + 1, rfl, rfl, rfl, by omega⟩ af (qh (zu kS)) zl zn
  ·
   refine qd (qo ae ?_);refine qg (qg (qd ?_));refine DoRet.r2 (.tmp rfl) (.tmp rfl) zg zl ?_;exact ⟨rfl, rfl⟩
end Go.Brd
namespace Go.Brd
open Go Go.Brd Go.Proofs
set_option linter.unusedVariables false
theorem pl_61 : placesOf Tryz.prog 61 = some [(0, 1), (1, 1), (2, 1), (3, 6), (9, 2)] := by kernel_rfl
theorem pl_68 : placesOf Tryz.prog 68 = some [(0, 1), (1, 1)] := by kernel_rfl
def aliveA : Act := ⟨1, ⟨#[]⟩, ⟨0, 0, 0, ⟨#[]⟩⟩⟩
def aliveB (i : Nat) : Op := ⟨0, [], i, aliveA, 0, 0⟩
def aliveO : Nat → Op
 | 0 => ⟨4, [], 0, aliveA, 375582489, 77644329⟩
 | _ + 1 => ⟨4, [], 1, aliveA, 376595462, 88407594⟩
theorem signed_of {k n p y e s : Nat} {o : Op} (hy : powM 4 k = y) (h1 : nonceN k (msgB { o with author := y }) = n) (h2 : powM 4 n = p) (h3 : chalN p y (msgB { o with author := y }) = e) (h4 : (n + e * k % 500000003) % 500000003 = s) : signed k o = { o with author := y, e := e, s := s } := by
 subst hy; subst h1; subst h2; subst h3; subst h4; rfl
theorem pow41 : powM 4 1 = 4 := by decide
theorem aliveB_wf (i : Nat) (hi : i < 2) : OpWF (aliveB i) := ⟨by show 0 < _; decide, by show i < _; omega, ⟨by show 1 < 256; decide, by show (0 : Nat) ≤ _; decide, ⟨by show 0 < 256; decide, by show (-9223372036854775808 : Int) ≤ 0 ∧ (0 : Int) ≤ 9223372036854775807; decide, by show 0 < 18446744073709551616; decide, by show (0 : Nat) ≤ _; decide⟩⟩, by show 0 < _; decide, by show 0 < _; decide⟩
theorem aliveB_ok (i : Nat) (hi : i < 2) : OpOk (unsig { aliveB i with author := powM 4 1 }) := by
 rw [pow41];refine opOk_iff.1 ?_;unfold opOk;rw [show (unsig { aliveB i with author := 4 }).author = 4 from rfl, isG_4];obtain rfl | rfl : i = 0 ∨ i = 1 := by omega
 · decide +kernel
 · decide +kernel
theorem alive_n0 : nonceN 1 (msgB { aliveB 0 with author := 4 }) = 202061843 := by decide +kernel
theorem alive_p0 : powM 4 202061843 = 895319347 := (powF_eq 4 30 202061843 ah).symm.trans ae
theorem alive_c0 : chalN 895319347 4 (msgB { aliveB 0 with author := 4 }) = 375582489 := by decide +kernel
theorem alive_signed0 : signed 1 (aliveB 0) = aliveO 0 :=
 signed_of (n := 202061843) (p := 895319347) (y := 4) (e := 375582489) (s := 77644329) pow41 alive_n0 alive_p0 alive_c0 ae
theorem alive_sgn0 : sgn (aliveO 0) = true := by
 show sgnOk 4 (msgB (aliveO 0)) 375582489 77644329 = true;unfold sgnOk;rw [← powF_eq 4 30 77644329 ah, ← powF_eq 4 30 (500000003 - 375582489) ah];decide +kernel
theorem alive_ok0 : opOk (aliveO 0) = true := by
 unfold opOk;rw [show (aliveO 0).author = 4 from rfl, isG_4];decide +kernel
theorem alive_n1 : nonceN 1 (msgB { aliveB 1 with author := 4 }) = 211812135 := by decide +kernel
theorem alive_p1 : powM 4 211812135 = 336507345 := (powF_eq 4 30 211812135 ah).symm.trans ae
theorem alive_c1 : chalN 336507345 4 (msgB { aliveB 1 with author := 4 }) = 376595462 := by decide +kernel
theorem alive_signed1 : signed 1 (aliveB 1) = aliveO 1 :=
 signed_of (n := 211812135) (p := 336507345) (y := 4) (e := 376595462) (s := 88407594) pow41 alive_n1 alive_p1 alive_c1 ae
theorem alive_sgn1 : sgn (aliveO 1) = true := by
 show sgnOk 4 (msgB (aliveO 1)) 376595462 88407594 = true;unfold sgnOk;rw [← powF_eq 4 30 88407594 ah, ← powF_eq 4 30 (500000003 - 376595462) ah];decide +kernel
theorem alive_ok1 : opOk (aliveO 1) = true := by
 unfold opOk;rw [show (aliveO 1).author = 4 from rfl, isG_4];decide +kernel
theorem alive_lt : Lib.compareBytes (idOf (aliveO 0)) (idOf (aliveO 1)) < 0 := by decide +kernel
theorem alive_all (i : Nat) (hi : i < 2) : opOk (aliveO i) = true ∧ sgn (aliveO i) = true ∧ signed 1 (aliveB i) = aliveO i ∧ (aliveO i).preds = [] := by
 obtain rfl | rfl : i = 0 ∨ i = 1 := by omega
 · exact ⟨alive_ok0, alive_sgn0, alive_signed0, rfl⟩
 · exact ⟨alive_ok1, alive_sgn1, alive_signed1, rfl⟩
theorem gok_flat {l : List Op} (hl : l.length ≤ 60) (h1 : ∀ o ∈ l, opOk o = true ∧ sgn o = true) (h2 : risB (l.map idOf) = true) (h3 : ∀ o ∈ l, o.preds = []) : GOk l :=
 ⟨hl, h1, h2, (fun o ho p hp => by rw [h3 o ho] at hp; cases hp), ⟨fun _ => 0, fun o ho p hp => by rw [h3 o ho] at hp; cases hp⟩⟩
theorem alive_one (i : Nat) (hi : i < 2) : GOk [aliveO i] := gok_flat am (fun o ho => by rw [List.mem_singleton.1 ho]; exact ⟨(alive_all i hi).1, (alive_all i hi).2.1⟩) rfl (fun o ho => by rw [List.mem_singleton.1 ho]; exact (alive_all i hi).2.2.2)
theorem insO_lt {a o : Op} (h : Lib.compareBytes (idOf a) (idOf o) < 0) : insO o [a] = [a, o] := by
 unfold insO; rw [if_pos h]; rfl
theorem unionO_one (a : List Op) (o : Op) : unionO a [o] = addO o a := rfl
theorem risB_two {a o : Op} (h : Lib.compareBytes (idOf a) (idOf o) < 0) : risB ([a, o].map idOf) = true := by
 show (decide (Lib.compareBytes (idOf a) (idOf o) < 0) && true) = true;rw [decide_eq_true h]; rfl
theorem alive_ne : idOf (aliveO 1) ≠ idOf (aliveO 0) := fun e => by have h := alive_lt; rw [e, cmp_id_iff.2 rfl] at h; exact absurd h ah
theorem alive_union : unionO [aliveO 0] [aliveO 1] = [aliveO 0, aliveO 1] := by
 rw [unionO_one];have h : idOf (aliveO 1) ∉ [aliveO 0].map idOf := fun h => alive_ne (List.mem_singleton.1 h)
 rw [addO_out h];exact insO_lt alive_lt
theorem alive_two : GOk [aliveO 0, aliveO 1] := gok_flat am (fun o ho => by
 rcases List.mem_cons.1 ho with rfl | ho
 · exact ⟨alive_ok0, alive_sgn0⟩
 · rw [List.mem_singleton.1 ho]; exact ⟨alive_ok1, alive_sgn1⟩) (risB_two alive_lt) (fun o ho => by
 rcases List.mem_cons.1 ho with rfl | ho
 · rfl
 · rw [List.mem_singleton.1 ho]; rfl)
theorem rids_nil (h : GH) : RIds h (.slice none 0 0) [] := ⟨by simp, by simp, by simp, none, 0, by simp, by simp, by decide, .inl rfl⟩
theorem alive_wf (i : Nat) (hi : i < 2) : OpWF (aliveO i) := by
 obtain rfl | rfl : i = 0 ∨ i = 1 := by omega
 · exact ⟨by show 4 < _; decide, by show 0 < _; decide, (aliveB_wf 0 hi).act, by show 375582489 < _; decide, by show 77644329 < _; decide⟩
 · exact ⟨by show 4 < _; decide, by show 1 < _; decide, (aliveB_wf 1 hi).act, by show 376595462 < _; decide, by show 88407594 < _; decide⟩
theorem unionO_nil1 (o : Op) : unionO [] [o] = [o] := by rw [unionO_one, addO_out am]; rfl
theorem rops_one {h : GH} {v pv : Value} {o : Op} (hs : Sl h v 11 [opC2 o pv]) (hw : OpWF o) (hp : RIds h pv o.preds) : ROps h v [(o, pv)] := ⟨hs, fun x hx => by rw [List.mem_singleton.1 hx]; exact ⟨hp, hw⟩⟩
abbrev aliveL : List (List Op) := [[aliveO 0], [aliveO 1]]
theorem alive_step (k : Nat) (hk : k < 2) : aliveL.take (k + 1) = aliveL.take k ++ [[aliveO k]] := takeS (by
 obtain rfl | rfl : k = 0 ∨ k = 1 := by omega
 · rfl
 · rfl)
theorem alive_gs {gs : List GrE} {u w : List Op} (h : opsG gs = [u, w]) : ∃ x y, gs = [x, y] ∧ fst1 x.xs = u ∧ fst1 y.xs = w := by
 have hl := congrArg List.length h;rw [opsG_len] at hl
 match gs, hl with
 | [x, y], _ => unfold opsG at h; simp at h; exact ⟨x, y, rfl, h.1, h.2⟩
theorem Apt.sub {l m : List Op} (h : ∀ o ∈ l, o ∈ m) (a : Apt m) : Apt l := fun x hx y hy e => a x (h x hx) y (h y hy) e
theorem alive_apt2 : Apt [aliveO 0, aliveO 1] := Apt.of_nodup (by
 show [idOf (aliveO 0), idOf (aliveO 1)].Nodup;refine List.nodup_cons.2 ⟨fun h => alive_ne (List.mem_singleton.1 h).symm, by simp⟩)
theorem alive_apt {gs : List GrE} (h : ∀ g ∈ gs, ∀ o ∈ fst1 g.xs, o ∈ [aliveO 0, aliveO 1]) : Apt (allOps gs) := Apt.sub (fun o ho => by
 obtain ⟨g, hg, h2⟩ := List.mem_flatMap.1 ho;exact h g hg o h2) alive_apt2
theorem all_two {α : Type} {P : α → Prop} {x y : α} (hx : P x) (hy : P y) : ∀ z ∈ [x, y], P z := fun z hz => by
 rcases List.mem_cons.1 hz with rfl | hz
 · exact hx
 · rw [List.mem_singleton.1 hz]; exact hy
theorem alive42 {c : World} {h : GH} {L : Own} (hg : GK h):
 Fun Tryz.prog c 4 #[] h L (fun u _ L' => u = .bool true ∧ L = L') := by
 refine kF (N := 71) (args := []) Tryz.func4 ?_;refine qo ae ?_;refine qg (qd (qo ae ?_));refine qg (qd (qo ae ?_));refine qg (qd ?_);refine qL (fun s0 nn s' h' L' => ∃ (k : Nat) (v : Value) (N : Own) (gs : List GrE), s' = [(1, v), (2, .int .u64 k)] ++ qR s0 [] ∧ nn = 2 - k ∧ N ++ L = L' ∧ k ≤ 2 ∧ OS 25 2 v (gs.map grC) N ∧ RAllG h' gs ∧ opsG gs = aliveL.take k) ⟨0, _, [], [], rfl, rfl, rfl, ?_⟩ zg zl zn ?_
 · exact ⟨Nat.zero_le _, OS.nil _ _, RAllG.nil _, by simp [opsG]⟩
 rintro nn s1 h1 L_ le2 ⟨k, v, N, gs, rfl, rfl, rfl, hk, hv, hgs, hfy⟩;replace hg := hg.mono le2;refine qo ae ?_;refine qg (qg (lssB (fun c12 => ?_) (fun c12 => ?_)))
 ·
  have hkl : k < 2 := by omega
  obtain ⟨hok, hsg, hsi, hpr⟩ := alive_all k hkl;have hawf := alive_wf k hkl;have hbwf := aliveB_wf k hkl;have hgk := alive_one k hkl;have hstep := alive_step k hkl;have hyl : gs.length = k := by have h9 := congrArg List.length hfy; rw [opsG_len, List.length_take] at h9; simp at h9; omega
  refine qd (qo ae ?_);refine qg (qg (build_struct zc_57 pl_57 (qy ac Parts.nil) rfl ?_));refine qg (build_struct zc_61 pl_61 (qy ac (qy ac Parts.nil)) rfl ?_);refine qg (qc (op_sign (k := 1) (o := aliveB k) (pv := .slice none 0 0) hg ah (aliveB_ok k hkl) hbwf (rids_nil _)) ?_);rintro v19 h4 L_ le3 ⟨⟨pv19, rfl, hp19⟩, rfl⟩;replace hg := hg.mono le3; replace hgs := hgs.mono le3;rw [hsi];obtain ⟨o, ho⟩ : ∃ o, aliveO k = o := ⟨_, rfl⟩;rw [ho] at hok hsg hpr hawf hgk hstep ⊢;refine qg (qg (qg (qg (qa zc_61 ?_))));intro b3;refine qg (kB (l' := opC2 o pv19) si_61 ac ai (opC_one2 (Sl.one hp19)) kR ab rfl kR.symm ?_);refine qg (qd (qo ae ?_));refine qg (qx (r := opC2 o pv19) ag_61 kH ab rfl ?_);refine qg (qB sl_23 z_61 rfl ag ah (opC_one2 (Sl.one hp19)) ?_);intro v24 h6 le5 hv24;replace hg := hg.mono le5; replace hgs := hgs.mono le5; replace hp19 := hp19.mono le5;refine qg (qc (dag_of (xs := [(o, pv19)]) hg (rops_one hv24 hawf (by rw [hpr]; exact hp19)) (fun o2 ho2 => by rw [List.mem_singleton.1 ho2]; exact ⟨hok, hsg⟩) (by simp [fst1]) am (show GOk (unionO [] [o]) by rw [unionO_nil1]; exact hgk)) ?_);rintro v25 h8 L_ le7 ⟨⟨g25, rfl, hg25, hf25⟩, rfl⟩;replace hgs := hgs.mono le7;rw [show fst1 [(o, pv19)] = [o] from rfl, unionO_nil1] at hf25;refine qg (qg (qg (qg (qa zc_25 ?_))));intro b5;refine qg (kB (l' := grC g25) si_25 ac ai (grC_one hg25) kR ab rfl kR.symm ?_);refine qg (qd (qo ae ?_));refine qg (qg (neqB (fun c29 => ?_) (fun c29 => ?_)))
  ·
   omega
  ·
   refine qg (kG rfl rfl ?_);refine kG rfl rfl ?_;refine neqB (fun c32 => ?_) (fun c32 => ?_)
   ·
    omega
   ·
    refine qg (qd (qo ae ?_));refine qg (qg (qx (r := grC g25) ag_25 kH ab rfl ?_));refine qg (qB sl_34 z_25 rfl ag ah (grC_one hg25) ?_);intro v36 h10 le9 hv36;replace hgs := hgs.mono le9; replace hg25 := hg25.mono le9;refine qg (qp sl_34 sl_34 z_25 aa aa ((zc ((zc kR).trans zm.symm)).trans zm.symm) ar ?_);intro v37 N37 hv37;refine ⟨_, ((zc ((zc kR).trans zm.symm)).trans zm.symm).symm, ?_⟩;refine qg (qd (qo ae ?_));refine qg (qg (add_u64n (a := k) (b := 1) af ?_));refine qg (qd ?_);exact back (m := _) ⟨k + 1, _, _, gs ++ [g25], rfl, rfl, rfl, by omega, grC_snoc hv37, hgs.snoc hg25, by rw [opsG_snoc, hfy, hf25, hstep]⟩ af (qh (zu (zu (List.Sublist.append_left kS _)))) zl zn
 ·
  have hke : k = 2 := by omega
  subst hke;obtain ⟨x, y, rfl, ex, ey⟩ := alive_gs hfy;refine qd ?_;refine DoRg.freeze hv am kR ?_;intro h11 le12 hv;replace hg := hg.mono le12; replace hgs := hgs.mono le12;have hrs : RGs _ v [x, y] := ⟨hv, hgs⟩;refine qo ae ?_;refine qg (qg (build_struct zc_68 pl_68 (qy ac (qy ac Parts.nil)) rfl ?_));refine qg (qc (gos_once (a := 0) (b := 1) (x := x) (y := y) hg hrs (all_two (by rw [ex]; exact alive_one 0 ah) (by rw [ey]; exact alive_one 1 ah)) am (alive_apt (all_two (by rw [ex]; intro o ho; rw [List.mem_singleton.1 ho]; simp) (by rw [ey]; intro o ho; rw [List.mem_singleton.1 ho]; simp))) rfl rfl ah (by rw [ex, ey, alive_union]; exact alive_two)) ?_);rintro v41 h14 L_ le13 ⟨N41, rfl, z41, rfl, gs41, hv41, hgs41, hf41⟩;replace hg := hg.mono le13;have hf42 : opsG gs41 = [[aliveO 0, aliveO 1], [aliveO 0, aliveO 1]] := by rw [hf41, ex, ey]; unfold metO; rw [alive_union]; rfl
  obtain ⟨x2, y2, rfl, ex2, ey2⟩ := alive_gs hf42;have hi2 : x2.xs.length = 2 := by have h9 := congrArg List.length ex2; rw [fst1_len] at h9; exact h9
  refine qg (qg (qg (qg (qg (qd ?_)))));refine DoRg.freeze hv41 am kR ?_;intro h15 le16 hv41;replace hg := hg.mono le16; replace hgs41 := hgs41.mono le16;have hrs2 : RGs _ z41 [x2, y2] := ⟨hv41, hgs41⟩;refine qo ae ?_;refine qg (qg (qc (conv_Same (l := [aliveO 0, aliveO 1]) hg hrs2 (all_two (by rw [ex2]; exact alive_two) (by rw [ey2]; exact alive_two)) am (alive_apt (all_two (by rw [ex2]; exact fun o ho => ho) (by rw [ey2]; exact fun o ho => ho))) (all_two ex2 ey2)) ?_));rintro v46 h18 L_ le17 ⟨rfl, rfl⟩;replace hrs2 := hrs2.mono le17;have hx2 := hrs2.each x2 am;refine qg (qg (qg (qg (qg (qd (qo ae ?_))))));refine qg (qg (eqlB (fun c50 => ?_) (fun c50 => ?_)))
  ·
   refine qg (qT rfl rfl ?_);refine qT rfl rfl ?_;refine eqlB (fun c53 => ?_) (fun c53 => ?_)
   ·
    refine qg (qg (qT rfl rfl ?_));refine qg (qg (qT rfl rfl ?_));refine qT rfl rfl ?_;refine qm sl_34 hrs2.sl ?_;refine qT rfl rfl ?_;refine eqlB (fun c61 => ?_) (fun c61 => ?_)
    ·
     refine qg (qg (qT rfl rfl ?_));refine qT rfl rfl ?_;refine qi (k := 0) (x := x2) sl_34 hrs2.sl rfl rfl ?_;intro p65 r65 hl65 hp65;refine qT rfl rfl ?_;refine qf fi_25_0 aa ?_;intro p66 hp66;refine qT rfl rfl ?_;refine ql sc_22 aa ?_;refine qT rfl rfl ?_;refine qm sl_22 hx2.ids ?_;rw [List.length_map, fst1_len, hi2];refine qT rfl rfl ?_;refine eqlB (fun c69 => ?_) (fun c69 => ?_)
     ·
      refine qg (qg (qd ?_));refine ze rfl ?_;exact ⟨rfl, rfl⟩
     ·
      omega
    ·
     simp at c61
   ·
    omega
  ·
   omega
end Go.Brd
namespace Go.Brd
open Go Go.Brd Go.Proofs
set_option linter.unusedVariables false
theorem un_126 : Tryz.prog.underlying 126 = some (.map 74 3) := by kernel_rfl
abbrev posV (k : Nat) : Value := .int .i64 (k : Int)
def plc (ids : List ID) : List (ID × Nat) := ids.zipIdx
theorem plc_snoc {ids : List ID} {k : Nat} {x : ID} (hx : ids[k]? = some x) : plc (ids.take (k + 1)) = plc (ids.take k) ++ [(x, k)] := by
 unfold plc;have hk := (List.getElem?_eq_some_iff.1 hx).1;rw [takeS hx, List.zipIdx_append, List.length_take, Nat.min_eq_left af, Nat.zero_add]; rfl
theorem plc_keys (ids : List ID) : (plc ids).map Prod.fst = ids := by unfold plc; exact List.zipIdx_map_fst 0 ids
theorem plc_new {ids : List ID} {k : Nat} {x : ID} (hn : ids.Nodup) (hx : ids[k]? = some x) : mset x k (plc (ids.take k)) = plc (ids.take (k + 1)) := by
 rw [plc_snoc hx];exact mset_snoc (mget_none.2 (by rw [plc_keys]; exact not_mem_take hn hx)) (i := 0)
theorem plc_len {ids : List ID} (h : ∀ x ∈ ids, x.length = 32) : ∀ p ∈ plc ids, p.1.length = 32 := fun p hp => h _ (by rw [← plc_keys ids]; exact List.mem_map.2 ⟨p, hp, rfl⟩)
theorem plc_get {ids : List ID} {i j v : Nat} {x : ID} (h : mget x (plc ids) 0 = some (j, v)) : v = j ∧ ids[j]? = some x := by
 have h1 := (mget_some h).2;unfold plc at h1;rw [Nat.sub_zero, List.getElem?_zipIdx] at h1;cases hx : ids[j]? with
 | none => rw [hx] at h1; cases h1
 | some y => rw [hx] at h1; simp at h1; exact ⟨h1.2.symm, by rw [h1.1]⟩
theorem plc_none {ids : List ID} {x : ID} (h : mget x (plc ids) 0 = none) : x ∉ ids := by have := mget_none.1 h; rw [plc_keys] at this; exact this
def RPlc (h : GH) (u : Value) (ids : List ID) : Prop := ∃ b, u = .map (some b) ∧ h b = some (mapO (mapA idC posV (plc ids)))
theorem RPlc.mono {h h' : GH} {u : Value} {ids : List ID} (hle : GH.le h h') (r : RPlc h u ids) : RPlc h' u ids := by
 obtain ⟨b, e, hb⟩ := r; exact ⟨b, e, hle b _ hb⟩
theorem anc_places {c : World} {h : GH} {L : Own} {iv ov : Value} {ids : List ID} (hi : RIds h iv ids) (hov : oneCell ov = true) (hn : ids.Nodup):
 Fun Tryz.prog c 65 #[gV iv ov] h L (fun u h' L' => RPlc h' u ids ∧ L = L') := by
 have h32 := hi.len32;have hsm := hi.small; rw [List.length_map] at hsm;refine kF (N := 23) (args := [gV iv ov]) Tryz.func65 ?_;refine qo ae ?_;refine qg (box_at rfl ?_);intro p1 h2 le1 hp1;replace hi := hi.mono le1;refine qg (qd (qo ae ?_));refine qg (qf fi_25_0 aa ?_);intro p6 hp6;refine qg (ql sc_22 aa ?_);refine qg (qm sl_22 hi ?_);refine qg (make_mapN un_126 ?_);intro b9;refine qg (qd (qo ae ?_));refine qg (qf fi_25_0 aa ?_);intro p10 hp10;refine qg (ql sc_22 aa ?_);refine qg (qm sl_22 hi ?_);refine qg (qd ?_);refine qL (fun s0 nn s' h' L' => ∃ (k : Nat), s' = [(13, .int .i64 k)] ++ qR s0 [3, 11, 12] ∧ nn = ids.length - k ∧ (b9, mapO (mapA idC posV (plc (ids.take k)))) :: L = L' ∧ k ≤ ids.length) ⟨0, rfl, rfl, rfl, ?_⟩ zg zl zn ?_
 · exact Nat.zero_le _
 rintro nn s1 h3 L_ le4 ⟨k, rfl, rfl, rfl, hk⟩;replace hi := hi.mono le4;refine qo ae ?_;refine qg (lssB (fun c14 => ?_) (fun c14 => ?_))
 ·
  have hkl : k < ids.length := by omega
  obtain ⟨x, hx⟩ := qE hkl;have hx32 := h32 x (List.mem_of_getElem? hx);have hcl : (idC x).length = 32 := by rw [idC_length, hx32]
  refine qd (qo ae ?_);refine qg (qg (qi (k := k) sl_22 aa rfl hx ?_));intro p16 r16 hl16 hp16;refine qg (qP ag_74 aa aa ?_);refine qg (qa zc_74 ?_);intro b5;refine qg (qg (kB (l' := idC x) si_74 ac hcl (idC_one _) kR ab (over_all (by rw [hcl, List.length_replicate])) kR.symm ?_));refine qd (qo ae ?_);refine qg (qg (qx (r := idC x) ag_74 kH (by rw [hcl]; decide) (by rw [List.drop_zero, List.take_of_length_le (by rw [hcl]; decide)]) ?_));refine qg (qg (map_updateA (k := x) (v := k) un_126 kt_id hx32 (plc_len (fun y hy => h32 y (List.mem_of_mem_take hy))) rfl ((zc kR).trans zw) ((zc kR).trans zw).symm ?_));rw [plc_new hn hx];refine qd (qo ae ?_);refine qg (qA ak ?_);refine qg (qd ?_);exact back (m := _) ⟨k + 1, rfl, rfl, rfl, by omega⟩ af (qh (zu (zv kS))) zl zn
 ·
  have hke : k = ids.length := by omega
  rw [hke, List.take_length];refine qd ?_;refine DoRg.freezeBox kR ?_;intro h5 le6 hfz;have hmz := hfz;refine qo ae ?_;refine qg (qg (qd ?_));refine ze rfl ?_;exact ⟨⟨b9, rfl, hmz⟩, rfl⟩
end Go.Brd
namespace Go.Brd
open Go Go.Brd Go.Proofs
set_option linter.unusedVariables false
theorem pl_f109 : plain Tryz.prog 109 = true := by kernel_rfl
theorem sc_126 : scalar Tryz.prog 126 = true := by kernel_rfl
theorem zvi_3 : zeroV Tryz.prog 3 = some (.int .i64 0) := by kernel_rfl
theorem missing1 {c : World} {h : GH} {L : Own} {p u : Value} {ids : List ID} {x : ID} (hp : At h p [u]) (hr : RPlc h u ids) (h32 : ∀ y ∈ ids, y.length = 32) (hx : x ∈ ids):
 Fun Tryz.prog c 67 #[idV x, p] h L (fun u _ L' => u = .bool true ∧ L = L') := by
 have hx32 := h32 x hx;have hcl : (idC x).length = 32 := by rw [idC_length, hx32]
 refine kF (N := 13) (args := [idV x, p]) Tryz.func67 ?_;refine qo ae ?_;refine qg (box_at rfl ?_);intro p2 h2 le1 hp2;replace hp := hp.mono le1; replace hr := hr.mono le1;refine qg (qd (qo ae ?_));refine qg ?_;obtain ⟨bm, rfl, hbm⟩ := hr;refine ql (v := .map (some bm)) sc_126 hp ?_;refine qg (qX ag_74 aa ag ?_);refine qg (lookup_mapA (k := x) un_126 kt_id hx32 (plc_len h32) zvi_3 (.inl hbm) (fun iz z hget => ?_) (fun hget => (plc_none hget hx).elim));refine qg (qg (qg (qg (qg (qd (qo ae ?_))))));refine qg (qg (qd ?_));refine ze rfl ?_;exact ⟨rfl, rfl⟩
theorem indexfunc_all {c : World} {h : GH} {L : Own} {v : Value} {l : List ID} {g : Nat} {caps : List Value} (hs : RIds h v l) (hg : ∀ (k : Nat) (x : ID) (h1 : GH) (L0 : Own), GH.le h h1 → l[k]? = some x → Fun Tryz.prog c g ([idV x] ++ caps).toArray h1 L0 (fun u _ L' => u = .bool true ∧ L0 = L')):
 Fun Tryz.prog c 109 #[v, .func (.func g) #[] caps.toArray] h L (fun u _ L' => u = .int .i64 (if l = [] then -1 else 0) ∧ L = L') := by
 have hsm := hs.small; rw [List.length_map] at hsm;refine kF (N := 19) (args := [v, .func (.func g) #[] caps.toArray]) Tryz.func109 ?_;refine qo ae ?_;refine qg (qd (qo ae ?_));refine qg (qg (qm sl_22 aa ?_));refine qg (qd ?_);refine qL (fun s0 nn s' h' L' => ∃ (k : Nat), s' = [(8, .int .i64 k)] ++ qR s0 [0, 1, 7] ∧ nn = l.length - k ∧ L = L' ∧ GH.le h h' ∧ k = 0) ⟨0, rfl, rfl, rfl, ?_⟩ zg zl zn ?_
 · exact ⟨GH.le_refl _, rfl⟩
 rintro nn s1 h1 L_ le2 ⟨k, rfl, rfl, rfl, hle0, hk⟩;replace hs := hs.mono le2;refine qo ae ?_;refine qg (lssB (fun c9 => ?_) (fun c9 => ?_))
 ·
  subst hk;obtain ⟨x, hx⟩ := qE (l := l) (k := 0) (by simp at c9; omega);refine qd (qo ae ?_);refine qg (qg (qd (qo ae ?_)));refine qg (qg (qg (qg (qi (k := 0) sl_22 aa rfl hx ?_))));intro p14 r14 hl14 hp14;refine qg (qP ag_74 aa aa ?_);refine qg (DoCall.clo (hg 0 x _ _ aa hx) ?_);rintro v16 h4 L_ le3 ⟨rfl, rfl⟩;refine qd (qo ae ?_);refine qg (qg (qd ?_));refine ze rfl ?_;rw [if_neg (fun e => by rw [e] at hx; cases hx)]; exact ⟨rfl, rfl⟩
 ·
  refine qd (qo ae ?_);refine qg (qd ?_);refine ze rfl ?_;subst hk;have hl0 : l.length = 0 := by first | omega | (simp only [List.length_map] at c9; omega)
  rw [if_pos (List.length_eq_zero_iff.1 hl0)]; exact ⟨rfl, rfl⟩
theorem deletefunc_all {c : World} {h : GH} {L : Own} {v : Value} {l : List ID} {g : Nat} {caps : List Value} {N : Own} (hv : OS 74 32 v (l.map idC) N) (h60 : l.length ≤ 1000) (hg : ∀ (k : Nat) (x : ID) (h1 : GH) (L0 : Own), GH.le h h1 → l[k]? = some x → Fun Tryz.prog c g ([idV x] ++ caps).toArray h1 L0 (fun u _ L' => u = .bool true ∧ L0 = L')):
 Fun Tryz.prog c 66 #[v, .func (.func g) #[] caps.toArray] h (N ++ L) (fun u h' L' => RIds h' u [] ∧ L = L') := by
 have hle0 := GH.le_refl h;refine kF (N := 42) (args := [v, .func (.func g) #[] caps.toArray]) Tryz.func66 ?_;refine qo ae ?_;refine qg (qd (qo ae ?_));refine qg (qg (qg (DoCall.borrow pl_f109 hv al kR (fun hB leB hbB => indexfunc_all hbB (fun k x h1 L0 hle hx => hg k x h1 L0 (GH.le_trans hle0 (GH.le_trans leB hle)) hx)) ?_)));rintro v10 h2 le1 rfl;replace hle0 := hle0.mono le1;obtain ⟨iv, hiv⟩ : ∃ iv : Int, (if l = [] then (-1 : Int) else 0) = iv := ⟨_, rfl⟩;rw [hiv];refine qg (qd (qo ae ?_));refine qg (qg (eqlB (fun c12 => ?_) (fun c12 => ?_)))
 ·
  have hl : l = [] := by
   by_cases hl : l = []
   · exact hl
   · rw [if_neg hl] at hiv; omega
  refine qd (qo ae ?_);refine qg (qg (qd ?_));refine DoRet.freeze hv al kR ?_;intro h3 le4 hv;refine ze rfl ?_;subst hl;exact ⟨hv, rfl⟩
 ·
  have hl : l ≠ [] := fun e => by rw [if_pos e] at hiv; omega
  rw [if_neg hl] at hiv;subst hiv;have hpos : 0 < l.length := List.length_pos_iff.2 hl;refine qd (qo ae ?_);refine qg (qg (qA ak ?_));refine qg (qd ?_);refine qL (fun s0 nn s' h' L' => ∃ (j : Nat), s' = [(5, .int .i64 0), (6, .int .i64 j)] ++ qR s0 [0, 1] ∧ nn = l.length - j ∧ N ++ L = L' ∧ GH.le h h' ∧ 1 ≤ j ∧ j ≤ l.length) ⟨1, rfl, rfl, rfl, ?_⟩ zg zl zn ?_
  · exact ⟨hle0, Nat.le_refl _, hpos⟩
  rintro nn s1 h5 L_ le6 ⟨j, rfl, rfl, rfl, hle1, hj1, hj⟩;refine qo ae ?_;refine qg (qg (qg (len_os sl_22 aa ?_)));refine qg (lssB (fun c19 => ?_) (fun c19 => ?_))
  ·
   simp only [List.length_map] at c19;have hjl : j < l.length := by omega
   obtain ⟨x, hx⟩ := qE hjl;have hcl : (idC x).length = 32 := hv.sizes _ (List.mem_of_getElem? (map_get hx));refine qd (qo ae ?_);refine qg (qg (qg (index_os (k := _) sl_22 aa ao (by first | omega | (simp; omega) | (simp [*]; done)) ?_)));intro p24 hp24;refine qg (load_osX (r := idC x) ag_74 aa aa (fun e he => (List.mem_append_left _ he)) (map_get hx) (by rw [hcl]; decide) (by rw [List.drop_zero, List.take_of_length_le (by rw [hcl]; decide)]) ?_);refine qg (qa zc_74 ?_);intro b7;refine qg (kB (l' := idC x) si_74 ac hcl (idC_one _) kR ab (over_all (by rw [hcl, List.length_replicate])) kR.symm ?_);refine qd (qo ae ?_);refine qg (qg (qx (r := idC x) ag_74 kH (by rw [hcl]; decide) (by rw [List.drop_zero, List.take_of_length_le (by rw [hcl]; decide)]) ?_));refine qg (DoCall.clo (hg j x _ _ hle1 hx) ?_);rintro v28 h8 L_ le7 ⟨rfl, rfl⟩;replace hle1 := hle1.mono le7;refine qg (not_tt ?_);refine qd (qo ae ?_);refine qg (qg (qA ak ?_));refine qg (qd ?_);exact back (m := _) ⟨j + 1, rfl, rfl, rfl, hle1, by omega, by omega⟩ af (qh (zu (List.Sublist.append_left kS _))) zl zn
  ·
   refine qd (qo ae ?_);refine qg (qg (qg (slice_os_self sl_22 hv rfl rfl ?_)));refine qg (clear_os sl_22 z_74 (zero_ones zc_74 rfl) hv kR ?_);intro u_ lsM9 M9 hlM9 hvM9; refine ⟨_, kR.symm, ?_⟩;refine qd ?_;refine DoRg.freeze hvM9 (by rw [hlM9, List.length_map]; omega) kR ?_;intro h10 le11 hvM9;refine qo ae ?_;refine qg (qg (qg (slice_sl_hi (hi := 0) sl_22 aa af (Nat.zero_le _) ?_)));intro v41 hv41
   try rw [← List.map_take] at hv41
   try rw [← List.map_drop] at hv41
   refine qg (qd ?_);refine ze rfl ?_;exact ⟨hv41, rfl⟩
end Go.Brd
namespace Go.Brd
open Go Go.Brd Go.Proofs
set_option linter.unusedVariables false
theorem si_126 : sizeIs Tryz.prog 126 1 = true := by kernel_rfl
theorem zc_126 : zeroC Tryz.prog 126 = some ([.map none]) := by kernel_rfl
theorem insort_none {c : World} {h : GH} {L : Own} {v : Value} (hs : RIds h v []):
 Fun Tryz.prog c 165 #[v, .int .i64 0, .int .i64 0, .func (.func 69) #[] #[]] h L (fun _ _ L' => L = L') := by
 refine kF (N := 53) (args := [v, .int .i64 0, .int .i64 0, .func (.func 69) #[] #[]]) Tryz.func165 ?_;refine qo ae ?_;refine qg (qg (qA ak ?_));refine qg (qd ?_);refine qL (fun s0 nn s' h' L' => ∃ (k : Nat), s' = [(8, .int .i64 1)] ++ qR s0 [0, 1, 2, 3] ∧ nn = 2 * k ∧ L = L' ∧ k = 0) ⟨0, rfl, rfl, rfl, ?_⟩ zg zl zn ?_
 · rfl
 rintro nn s1 h1 L_ le2 ⟨k, rfl, rfl, rfl, hk0⟩;refine qo ae ?_;refine qg (qg (qg (lssB (fun c14 => ?_) (fun c14 => ?_))))
 ·
  omega
 ·
  refine qd ?_;refine DoRet.none zg zl ?_;rfl
theorem len64_0 {c : World} {h : GH} {L : Own} :
 Fun Tryz.prog c 130 #[.int .u64 0] h L (fun u _ L' => (∃ k : Int, u = .int .i64 k) ∧ L = L') := by
 refine kF (N := 25) (args := [.int .u64 0]) Tryz.func130 ?_;refine qo ae ?_;refine qg (qd (qo ae ?_));refine qg (qg (geqB (fun c4 => ?_) (fun c4 => ?_)))
 ·
  omega
 ·
  refine qd (qo ae ?_);refine qg (qg (geqB (fun c8 => ?_) (fun c8 => ?_)))
  ·
   omega
  ·
   refine qd (qo ae ?_);refine qg (qg (geqB (fun c14 => ?_) (fun c14 => ?_)))
   ·
    omega
   ·
    refine qd (qo ae ?_);refine qg (qg (qg (conv_u8 it_52_5 ?_)));refine qg ?_;obtain ⟨tb, ht1, ht2, ht3, ht4⟩ := tab_at (show (0 : Nat) < 256 by decide);refine index_str (s := tab64) (k := 0) un_9 rfl ht1 ?_;refine qg (conv_i64 it_5_3 ak ?_);refine qg (qA ak ?_);refine qg (qd ?_);refine ze rfl ?_;exact ⟨⟨_, rfl⟩, rfl⟩
theorem len_0 {c : World} {h : GH} {L : Own} :
 Fun Tryz.prog c 82 #[.int .u64 0] h L (fun u _ L' => (∃ k : Int, u = .int .i64 k) ∧ L = L') := by
 refine kF (N := 8) (args := [.int .u64 0]) Tryz.func82 ?_;refine qo ae ?_;refine qg (qd (qo ae ?_));refine qg (qg (qc (len64_0) ?_));rintro v7 h2 L_ le1 ⟨⟨k7, rfl⟩, rfl⟩;refine qg (qd ?_);refine ze rfl ?_;exact ⟨⟨k7, rfl⟩, rfl⟩
theorem pdq_none {c : World} {h : GH} {L : Own} {v u : Value} (hs : RIds h v []):
 Fun Tryz.prog c 110 #[v, .int .i64 0, .int .i64 0, u, .func (.func 69) #[] #[]] h L (fun _ _ L' => L = L') := by
 refine kF (N := 148) (args := [v, .int .i64 0, .int .i64 0, u, .func (.func 69) #[] #[]]) Tryz.func110 ?_;refine qo ae ?_;refine qg (qd (qo ae ?_));refine qg (qd ?_);refine qL (fun s0 nn s' h' L' => ∃ (k : Nat), s' = [(1, .int .i64 0), (2, .int .i64 0), (3, u), (10, .bool true), (11, .bool true)] ++ qR s0 [0, 4] ∧ nn = 2 * k ∧ L = L' ∧ k = 0) ⟨0, rfl, rfl, rfl, ?_⟩ zg zl zn ?_
 · rfl
 rintro nn s1 h1 L_ le2 ⟨k, rfl, rfl, rfl, hk0⟩;replace hs := hs.mono le2;refine qo ae ?_;refine qg (qg (qg (sub_i64 ak ?_)));refine qg (qd (qo ae ?_));refine qg (qg (leqB (fun c25 => ?_) (fun c25 => ?_)))
 ·
  refine qd (qo ae ?_);refine qg (qg (qg (qg (qg (qc (insort_none hs) ?_)))));rintro v30 h4 L_ le3 rfl;refine qd ?_;refine DoRet.none zg zl ?_;rfl
 ·
  exact absurd ah c25
theorem sort_none {c : World} {h : GH} {L : Own} {v : Value} (hs : RIds h v []):
 Fun Tryz.prog c 68 #[v, .func (.func 69) #[] #[]] h L (fun _ _ L' => L = L') := by
 refine kF (N := 14) (args := [v, .func (.func 69) #[] #[]]) Tryz.func68 ?_;refine qo ae ?_;refine qg (qg (len_sl sl_22 hs ?_));refine qg (qd (qo ae ?_));refine qg (qg (qg (qg (conv_u64 it_3_143 ah ?_))));refine qg (qc (len_0) ?_);rintro v11 h2 L_ le1 ⟨⟨k11, rfl⟩, rfl⟩;replace hs := hs.mono le1;refine qg (qg (qc (pdq_none hs) ?_));rintro v13 h4 L_ le3 rfl;refine qd ?_;refine DoRet.none zg zl ?_;rfl
theorem At.box {h : GH} {b E : Nat} {l : List Value} (hb : h b = some (.cells l.toArray E (0, 0))) : At h (.pointer (some ⟨b, 0, none⟩)) l := ⟨b, 0, _, rfl, hb, l.toArray, E, (0, 0), rfl, by simp⟩
theorem anc_missing {c : World} {h : GH} {L : Own} {iv ov v1 : Value} {xs : List (Op × Value)} {l : List ID} (hg : GK h) (hi : RIds h iv ((fst1 xs).map idOf)) (ho : ROps h ov xs) (hG : GOk (fst1 xs)) (hl : RIds h v1 l) (h20 : l.length ≤ 60) (hall : ∀ x ∈ l, x ∈ (fst1 xs).map idOf):
 Fun Tryz.prog c 25 #[gV iv ov, v1] h L (fun u h' L' => (∃ z, u = .tuple #[z, .int .i64 0] ∧ RIds h' z []) ∧ L = L') := by
 have h32 := hi.len32;refine kF (N := 27) (args := [gV iv ov, v1]) Tryz.func25 ?_;refine qo ae ?_;refine qg (box_at rfl ?_);intro p2 h2 le1 hp2;replace hg := hg.mono le1; replace hi := hi.mono le1; replace ho := ho.mono le1; replace hl := hl.mono le1;refine qg (qg (qd (qo ae ?_)));refine qg (qX ag_25 aa ag ?_);refine qg (qc (dag_check hg hi ho hG) ?_);rintro v10 h4 L_ le3 ⟨rfl, rfl⟩;replace hi := hi.mono le3; replace ho := ho.mono le3; replace hl := hl.mono le3; replace hp2 := hp2.mono le3;refine qg (qd (qo ae ?_));refine qg (qg (neqB (fun c12 => ?_) (fun c12 => ?_)))
 ·
  omega
 ·
  refine qd (qo ae ?_);refine qg (qg (qm sl_22 hl ?_));refine qg (gtrB (fun c16 => ?_) (fun c16 => ?_))
  ·
   omega
  ·
   refine qd (qo ae ?_);refine qg (qX ag_25 aa ag ?_);refine qg (qc (anc_places hi (Sl.one ho.sl) hG.nodup) ?_);rintro v18 h6 L_ le5 ⟨⟨bm, rfl, hbm⟩, rfl⟩;replace hl := hl.mono le5;have hpl : RPlc _ (.map (some bm)) ((fst1 xs).map idOf) := ⟨bm, rfl, hbm⟩;refine qg (qa zc_126 ?_);intro b7;refine qg (kB (l' := [.map (some bm)]) si_126 ac ai rfl kR ab rfl kR.symm ?_);refine qd ?_;refine DoRg.freezeBox kR ?_;intro h7 le8 hfz;replace hl := hl.mono le8; replace hpl := hpl.mono le8;have hat := At.box hfz;refine qo ae ?_;refine qg (qg (qc (clone_id hl al) ?_));rintro v20 h10 L_ le9 ⟨N20, rfl, hv20⟩;replace hpl := hpl.mono le9; replace hat := hat.mono le9;refine qg (qg (qc (deletefunc_all (caps := [.pointer (some ⟨b7, 0, none⟩)]) hv20 af (fun k x h1 L0 hle hx => missing1 (hat.mono hle) (hpl.mono hle) h32 (hall x (List.mem_of_getElem? hx)))) ?_));rintro v22 h12 L_ le11 ⟨hv22, rfl⟩;refine qg (qd (qo ae ?_));refine qg (qg (qc (sort_none hv22) ?_));rintro v24 h14 L_ le13 rfl;replace hv22 := hv22.mono le13;refine qd (qo ae ?_);refine qg (qg (qc (compact_ids (l := []) hv22 rfl) ?_));rintro v26 h16 L_ le15 ⟨rfl, rfl⟩;replace hv22 := hv22.mono le15;refine qg (qg (qd ?_));refine DoRet.r2 (.tmp rfl) (.tmp rfl) zg zl ?_;exact ⟨⟨v26, rfl, hv22⟩, rfl⟩
end Go.Brd
namespace Go.Brd
open Go Go.Brd Go.Proofs
set_option linter.unusedVariables false
inductive Dn (l : List Op) : ID → ID → Prop
 | refl (x : ID) : Dn l x x
 | step {o : Op} {p z : ID} (ho : o ∈ l) (hp : p ∈ o.preds) (h : Dn l p z) : Dn l (idOf o) z
def Bits (ids : List ID) (sb : List Bool) (M : ID → Prop) : Prop := sb.length = ids.length ∧ ∀ (k : Nat) (x : ID), ids[k]? = some x → (sb[k]? = some true ↔ M x)
def Shut (l : List Op) (f : ID → Nat) (r : Nat) (M : ID → Prop) : Prop := ∀ o ∈ l, f (idOf o) ≤ r → M (idOf o) → ∀ p ∈ o.preds, M p
theorem Shut.low {l : List Op} {f : ID → Nat} {r r' : Nat} {M : ID → Prop} (h : Shut l f r M) (hr : r' ≤ r) : Shut l f r' M := fun o ho hf hm p hp => h o ho af hm p hp
theorem Dn.trans {l : List Op} {x y z : ID} (a : Dn l x y) (b : Dn l y z) : Dn l x z := by
 induction a with
 | refl => exact b
 | step ho hp _ ih => exact .step ho hp (ih b)
theorem Shut.dn {l : List Op} {f : ID → Nat} {r : Nat} {M : ID → Prop} (h : Shut l f r M) (hf : ∀ o ∈ l, ∀ p ∈ o.preds, f p < f (idOf o)) {x z : ID} (d : Dn l x z) (hx : f x ≤ r) (hm : M x) : M z := by
 induction d with
 | refl => exact hm
 | step ho hp _ ih => exact ih (by have := hf _ ho _ hp; omega) (h _ ho hx hm _ hp)
theorem Shut.or {l : List Op} {f : ID → Nat} {r : Nat} {M : ID → Prop} (h : Shut l f r M) (x : ID) (hn : ∀ a ∈ l, ∀ b ∈ l, idOf a = idOf b → a = b) : Shut l f r (fun z => M z ∨ Dn l x z) := fun o ho hfr hm p hp => by
 rcases hm with hm | hm
 · exact .inl (h o ho hfr hm p hp)
 · exact .inr (hm.trans (.step ho hp (.refl p)))
theorem Bits.congr {ids : List ID} {sb : List Bool} {M M' : ID → Prop} (h : Bits ids sb M) (e : ∀ x ∈ ids, M x ↔ M' x) : Bits ids sb M' := ⟨h.1, fun k x hx => (h.2 k x hx).trans (e x (List.mem_of_getElem? hx))⟩
theorem Bits.set {ids : List ID} {sb : List Bool} {M : ID → Prop} (h : Bits ids sb M) (hn : ids.Nodup) {k : Nat} {x : ID} (hx : ids[k]? = some x) : Bits ids (sb.set k true) (fun z => M z ∨ z = x) := by
 have hk := (List.getElem?_eq_some_iff.1 hx).1;refine ⟨by rw [List.length_set]; exact h.1, fun j y hy => ?_⟩;rw [List.getElem?_set];by_cases e : k = j
 · subst e
   rw [hx] at hy; cases hy;rw [if_pos rfl, if_pos (by rw [h.1]; exact hk)];exact ⟨fun _ => .inr rfl, fun _ => rfl⟩
 · rw [if_neg e, h.2 j y hy]
   refine ⟨.inl, fun hm => hm.elim id fun e2 => (e ?_).elim⟩;subst e2;exact nodup_inj hn hx hy
theorem bits_none (ids : List ID) : Bits ids (List.replicate ids.length false) (fun _ => False) := ⟨by simp, fun k x hx => by
 rw [List.getElem?_replicate]; split <;> simp⟩
end Go.Brd
namespace Go.Brd
open Go Go.Brd Go.Proofs
set_option linter.unusedVariables false
theorem sc_131 : scalar Tryz.prog 131 = true := by kernel_rfl
theorem sc_77 : scalar Tryz.prog 77 = true := by kernel_rfl
theorem GOk.inj {l : List Op} (h : GOk l) {a b : Op} (ha : a ∈ l) (hb : b ∈ l) (e : idOf a = idOf b) : a = b := by
 obtain ⟨i, hi, ea⟩ := List.getElem_of_mem ha;obtain ⟨j, hj, eb⟩ := List.getElem_of_mem hb;have h1 : (l.map idOf)[i]? = some (idOf a) := map_get (by rw [List.getElem?_eq_getElem hi, ea]);have h2 : (l.map idOf)[j]? = some (idOf a) := by rw [e]; exact map_get (by rw [List.getElem?_eq_getElem hj, eb])
 have := nodup_inj h.nodup h1 h2;subst this; rw [← ea, ← eb]
theorem dn_iff {l : List Op} (hG : GOk l) {o : Op} (ho : o ∈ l) {z : ID} : Dn l (idOf o) z ↔ z = idOf o ∨ ∃ q ∈ o.preds, Dn l q z := by
 constructor
 · intro h
   generalize hx : idOf o = x at h
   cases h with
   | refl => exact .inl rfl
   | step ho2 hp h2 => have := hG.inj ho2 ho (by rw [hx]); subst this; exact .inr ⟨_, hp, h2⟩
 · rintro (rfl | ⟨q, hq, h⟩)
   · exact .refl _
   · exact .step ho hq h
theorem idsx_get {xs : List (Op × Value)} {k : Nat} {x : ID} (h : ((fst1 xs).map idOf)[k]? = some x) : ∃ y, xs[k]? = some y ∧ idOf y.1 = x := by
 unfold fst1 at h;rw [List.map_map, List.getElem?_map] at h;cases hy : xs[k]? with
 | none => rw [hy] at h; cases h
 | some y => rw [hy] at h; exact ⟨y, rfl, by simpa using h⟩
theorem fst1_mem {xs : List (Op × Value)} {k : Nat} {y : Op × Value} (h : xs[k]? = some y) : y.1 ∈ fst1 xs := List.mem_of_getElem? (fst1_at h)
structure RVis (h : GH) (p1 p2 p3 p4 : Value) (xs : List (Op × Value)) (iv ov sv : Value) : Prop where
 at_ : ∃ u, At h p1 [u] ∧ RPlc h u ((fst1 xs).map idOf)
 seen : At h p2 [sv]
 g : At h p3 [iv, ov]
 visit : At h p4 [.func (.func 71) #[] [p1, p2, p3, p4].toArray]
 ops : ROps h ov xs
theorem RVis.mono {h h' : GH} {p1 p2 p3 p4 : Value} {xs : List (Op × Value)} {iv ov sv : Value} (hle : GH.le h h') (r : RVis h p1 p2 p3 p4 xs iv ov sv) : RVis h' p1 p2 p3 p4 xs iv ov sv := by
 obtain ⟨u, h1, h2⟩ := r.at_;exact ⟨⟨u, h1.mono hle, h2.mono hle⟩, r.seen.mono hle, r.g.mono hle, r.visit.mono hle, r.ops.mono hle⟩
def VisC (f : ID → Nat) (xs : List (Op × Value)) (p1 p2 p3 p4 sv : Value) (c : World) (x : ID) (h : GH) : Prop := ∀ (L N : Own) (sb : List Bool) (M : ID → Prop), OS 4 1 sv (sb.map bC) N → Bits ((fst1 xs).map idOf) sb M → Shut (fst1 xs) f (f x) M →
 Fun Tryz.prog c 71 [idV x, p1, p2, p3, p4].toArray h (N ++ L) (fun _ _ L' => ∃ N', L' = N' ++ L ∧ ∃ sb', OS 4 1 sv (sb'.map bC) N' ∧ Bits ((fst1 xs).map idOf) sb' (fun z => M z ∨ Dn (fst1 xs) x z))
theorem bits_step {l : List Op} {ids : List ID} {sb : List Bool} {M : ID → Prop} {x q : ID} {ps : List ID} {k : Nat} (hq : ps[k]? = some q) (h : Bits ids sb (fun z => (M z ∨ z = x ∨ ∃ p ∈ ps.take k, Dn l p z) ∨ Dn l q z)) : Bits ids sb (fun z => M z ∨ z = x ∨ ∃ p ∈ ps.take (k + 1), Dn l p z) :=
 h.congr fun z _ => by
  rw [takeS hq];constructor
  · rintro ((h | h | ⟨p, hp, h⟩) | h)
    · exact .inl h
    · exact .inr (.inl h)
    · exact .inr (.inr ⟨p, List.mem_append_left _ hp, h⟩)
    · exact .inr (.inr ⟨q, by simp, h⟩)
  · rintro (hd | hd | ⟨p, hp, hd⟩)
    · exact .inl (.inl hd)
    · exact .inl (.inr (.inl hd))
    · rcases List.mem_append.1 hp with hp | hp
      · exact .inl (.inr (.inr ⟨p, hp, hd⟩))
      · have : p = q := by simpa using hp
        subst this; exact .inr hd
theorem shut_step {l : List Op} {f : ID → Nat} {M : ID → Prop} {x q : ID} {ps : List ID} {k : Nat} (hM : Shut l f (f x) M) (hq : f q < f x) : Shut l f (f q) (fun z => M z ∨ z = x ∨ ∃ p ∈ ps.take k, Dn l p z) := fun o ho hr hm p hp => by
 rcases hm with hm | hm | ⟨p2, hp2, hm⟩
 · exact .inl (hM o ho af hm p hp)
 · rw [hm] at hr; omega
 · exact .inr (.inr ⟨p2, hp2, hm.trans (.step ho hp (.refl p))⟩)
theorem reach1_step {c : World} {h : GH} {L : Own} {p1 p2 p3 p4 iv ov sv : Value} {xs : List (Op × Value)} {f : ID → Nat} {x : ID} (hV : RVis h p1 p2 p3 p4 xs iv ov sv) (hG : GOk (fst1 xs)) (h32 : ∀ y ∈ ((fst1 xs).map idOf), y.length = 32) (hf : ∀ o ∈ fst1 xs, ∀ p ∈ o.preds, f p < f (idOf o)) (hx : x ∈ ((fst1 xs).map idOf))
 (IH : ∀ y ∈ ((fst1 xs).map idOf), f y < f x → ∀ h', GH.le h h' → VisC f xs p1 p2 p3 p4 sv c y h')
 {N : Own} {sb : List Bool} {M : ID → Prop} (hv : OS 4 1 sv (sb.map bC) N) (hB : Bits ((fst1 xs).map idOf) sb M) (hM : Shut (fst1 xs) f (f x) M):
 Fun Tryz.prog c 71 #[idV x, p1, p2, p3, p4] h (N ++ L) (fun _ _ L' => ∃ N', L' = N' ++ L ∧ ∃ sb', OS 4 1 sv (sb'.map bC) N' ∧ Bits ((fst1 xs).map idOf) sb' (fun z => M z ∨ Dn (fst1 xs) x z)) := by
 have hle0 := GH.le_refl h;have hx32 := h32 x hx;have hcl : (idC x).length = 32 := by rw [idC_length, hx32]
 refine kF (N := 34) (args := [idV x, p1, p2, p3, p4]) Tryz.func71 ?_;refine qo ae ?_;refine qg (box_at rfl ?_);intro p5 h2 le1 hp5;replace hV := hV.mono le1; replace hle0 := hle0.mono le1;refine qd (qo ae ?_);refine qg ?_;obtain ⟨u1, hp1, hr⟩ := hV.at_;obtain ⟨bm, rfl, hbm⟩ := hr;refine ql (v := .map (some bm)) sc_126 hp1 ?_;refine qg (qX ag_74 aa ag ?_);refine qg (lookup_mapA (k := x) un_126 kt_id hx32 (plc_len h32) zvi_3 (.inl hbm) (fun iz z hget => ?_) (fun hget => (plc_none hget hx).elim));obtain ⟨rfl, hxi⟩ := plc_get (i := 0) hget;obtain ⟨y, hy, hyx⟩ := idsx_get hxi;have hizl : z < (sb.map bC).length := by rw [List.length_map, hB.1]; exact (List.getElem?_eq_some_iff.1 hxi).1
 obtain ⟨b15, hb⟩ := qE (by rw [List.length_map] at hizl; exact hizl);have hyo := fst1_mem hy;have hry := hV.ops.each y (List.mem_of_getElem? hy);have hrp := hry.preds;have hpsm := hrp.small;rw [List.length_map] at hpsm;refine qg (qd (qo ae ?_));refine qg (ql (v := sv) sc_77 hV.seen ?_);refine qg (qg (index_os (k := z) sl_77 aa rfl hizl ?_));intro p14 hp14;refine qg (load_os1 sc_4 aa aa (fun e he => (List.mem_append_left _ he)) (map_get hb) rfl ?_);refine qd ?_;cases hb15 : b15
 ·
  refine qo ae ?_;refine qg (ql (v := sv) sc_77 hV.seen ?_);refine qg (qg (index_os (k := z) sl_77 aa rfl hizl ?_));intro p18 hp18;refine qg (store_os si_4 ac rfl rfl aa hv (map_get hb) kR ab (show over (bC b15) 0 [.bool true] = [.bool true] from rfl) ?_);clear hv; intro M3 hv; refine ⟨_, kR.symm, ?_⟩;refine qd (qo ae ?_);refine qg (qf fi_25_1 hV.g ?_);intro p19 hp19;refine qg (ql (v := ov) sc_23 hp19 ?_);refine qg (qg (qi (k := z) sl_23 hV.ops.sl rfl hy ?_));intro p22 r22 hl22 hp22;refine qg (qf fi_61_1 hp22 ?_);intro p23 hp23;refine qg (ql (v := y.2) sc_22 hp23 ?_);refine qg (qm sl_22 hrp ?_);refine qg (qd ?_);refine qL (fun s0 nn s' h' L' => ∃ (k : Nat) (N1 : Own) (sb1 : List Bool), s' = [(26, .int .i64 k)] ++ qR s0 [4, 24, 25] ∧ nn = y.1.preds.length - k ∧ N1 ++ L = L' ∧ k ≤ y.1.preds.length ∧ OS 4 1 sv (sb1.map bC) N1 ∧ Bits ((fst1 xs).map idOf) sb1 (fun w => M w ∨ w = x ∨ ∃ q ∈ y.1.preds.take k, Dn (fst1 xs) q w)) ⟨0, _, sb.set z true, rfl, rfl, rfl, ?_⟩ zg zl zn ?_
  · exact ⟨Nat.zero_le _, by rw [List.map_set]; assumption, (hB.set hG.nodup hxi).congr fun w _ => by simp⟩
  rintro nn s1 h4 L_ le5 ⟨k, N1, sb1, rfl, rfl, rfl, hk, hv1, hB1⟩;replace hV := hV.mono le5; replace hle0 := hle0.mono le5; replace hrp := hrp.mono le5;refine qo ae ?_;refine qg (lssB (fun c27 => ?_) (fun c27 => ?_))
  ·
   have hkl : k < y.1.preds.length := by omega
   obtain ⟨q, hq⟩ := qE hkl;have hqm := List.mem_of_getElem? hq;have hq32 := (show RIds _ y.2 y.1.preds from hrp).len32 q hqm;have hcl : (idC q).length = 32 := by rw [idC_length, hq32]
   have hql : f q < f x := by rw [← hyx]; exact hf _ hyo q hqm
   have hqi := hG.closed _ hyo q hqm;refine qd (qo ae ?_);refine qg (qi (k := k) sl_22 aa rfl hq ?_);intro p28 r28 hl28 hp28;refine qg (qP ag_74 aa aa ?_);refine qg (qa zc_74 ?_);intro b8;refine qg (kB (l' := idC q) si_74 ac hcl (idC_one _) kR ab (over_all (by rw [hcl, List.length_replicate])) kR.symm ?_);refine qd (qo ae ?_);refine qg (ql (v := .func (.func 71) #[] [p1, p2, p3, p4].toArray) sc_131 hV.visit ?_);refine qg (qx (r := idC q) ag_74 kH (by rw [hcl]; decide) (by rw [List.drop_zero, List.take_of_length_le (by rw [hcl]; decide)]) ?_);refine qg (DoCall.osC ((zc kR).trans zm.symm) (IH q hqi hql _ hle0 _ _ _ _ hv1 hB1 (shut_step hM hql)) ?_);rintro v32 h7 N32 le6 ⟨sb32, hv32, hB32⟩;refine ⟨_, ((zc kR).trans zm.symm).symm, ?_⟩;refine qd (qo ae ?_);refine qg (qA ak ?_);refine qg (qd ?_);exact back (m := _) ⟨k + 1, N32, sb32, rfl, rfl, rfl, by omega, hv32, bits_step hq hB32⟩ af (qh (zu (List.Sublist.append_left kS _))) zl zn
  ·
   refine qd ?_;refine DoRet.none (qh (List.Sublist.append_left kS _)) zl ?_;have hke : k = y.1.preds.length := by omega
   rw [hke, List.take_length] at hB1;exact ⟨N1, rfl, sb1, hv1, hB1.congr fun w _ => by rw [← hyx, dn_iff hG hyo]⟩
 ·
  refine DoRet.none (qh (List.Sublist.append_left kS _)) zl ?_;exact ⟨N, rfl, sb, hv, hB.congr fun w _ => ⟨.inl, fun e => e.elim id fun d => hM.dn hf d (Nat.le_refl _) ((hB.2 z x hxi).1 (by rw [← hb15]; exact hb))⟩⟩
theorem reach1 {c : World} {h : GH} {p1 p2 p3 p4 iv ov sv : Value} {xs : List (Op × Value)} {f : ID → Nat} (hV : RVis h p1 p2 p3 p4 xs iv ov sv) (hG : GOk (fst1 xs)) (h32 : ∀ y ∈ (fst1 xs).map idOf, y.length = 32) (hf : ∀ o ∈ fst1 xs, ∀ p ∈ o.preds, f p < f (idOf o)) : ∀ (n : Nat) (x : ID), f x < n → x ∈ (fst1 xs).map idOf → ∀ h', GH.le h h' → VisC f xs p1 p2 p3 p4 sv c x h'
 | 0, _, hn, _, _, _ => by omega
 | n + 1, x, hn, hx, h', hle => fun L N sb M hv hB hM => reach1_step (hV.mono hle) hG h32 hf hx (fun y hy hyx h2 hle2 => reach1 hV hG h32 hf n y af hy h2 (GH.le_trans hle hle2)) hv hB hM
end Go.Brd
namespace Go.Brd
open Go Go.Brd Go.Proofs
set_option linter.unusedVariables false
theorem si_131 : sizeIs Tryz.prog 131 1 = true := by kernel_rfl
theorem si_77 : sizeIs Tryz.prog 77 1 = true := by kernel_rfl
theorem zc_131 : zeroC Tryz.prog 131 = some ([.nilFunc]) := by kernel_rfl
theorem zc_77 : zeroC Tryz.prog 77 = some ([.slice none 0 0]) := by kernel_rfl
theorem shut_all {l : List Op} {f : ID → Nat} {r : Nat} {qs : List ID} : Shut l f r (fun z => ∃ q ∈ qs, Dn l q z) := fun o ho _ ⟨q, hq, hm⟩ p hp => ⟨q, hq, hm.trans (.step ho hp (.refl p))⟩
theorem bits_snoc {l : List Op} {ids : List ID} {sb : List Bool} {q : ID} {ps : List ID} {k : Nat} (hq : ps[k]? = some q) (h : Bits ids sb (fun z => (∃ p ∈ ps.take k, Dn l p z) ∨ Dn l q z)) : Bits ids sb (fun z => ∃ p ∈ ps.take (k + 1), Dn l p z) :=
 h.congr fun z _ => by
  rw [takeS hq];constructor
  · rintro (⟨p, hp, h⟩ | h)
    · exact ⟨p, List.mem_append_left _ hp, h⟩
    · exact ⟨q, by simp, h⟩
  · rintro ⟨p, hp, hd⟩
    rcases List.mem_append.1 hp with hp | hp
    · exact .inl ⟨p, hp, hd⟩
    · have : p = q := by simpa using hp
      subst this; exact .inr hd
theorem plc_one {h : GH} {u : Value} {ids : List ID} (r : RPlc h u ids) : ([u] : List Value).all oneCell = true := by
 obtain ⟨b, rfl, _⟩ := r; rfl
theorem anc_reach {c : World} {h : GH} {L : Own} {iv ov lv : Value} {xs : List (Op × Value)} {l : List ID} (hi : RIds h iv ((fst1 xs).map idOf)) (ho : ROps h ov xs) (hG : GOk (fst1 xs)) (hl : RIds h lv l) (hall : ∀ x ∈ l, x ∈ ((fst1 xs).map idOf)):
 Fun Tryz.prog c 26 #[gV iv ov, lv] h L (fun u _ L' => ∃ N, L' = N ++ L ∧ ∃ sb, OS 4 1 u (sb.map bC) N ∧ Bits ((fst1 xs).map idOf) sb (fun z => ∃ q ∈ l, Dn (fst1 xs) q z)) := by
 have h32 := hi.len32;have hsm := hi.small;have hsml := hl.small; rw [List.length_map] at hsml;obtain ⟨f, hf⟩ := hG.rank;refine kF (N := 28) (args := [gV iv ov, lv]) Tryz.func26 ?_;refine qo ae ?_;refine qg (box_at rfl ?_);intro p2 h2 le1 hp2;replace hi := hi.mono le1; replace ho := ho.mono le1; replace hl := hl.mono le1;refine qg (qd (qo ae ?_));refine qg (qX ag_25 aa ag ?_);refine qg (qc (anc_places hi (Sl.one ho.sl) hG.nodup) ?_);rintro v11 h4 L_ le3 ⟨hpl, rfl⟩;replace hi := hi.mono le3; replace ho := ho.mono le3; replace hl := hl.mono le3; replace hp2 := hp2.mono le3;refine qg (qa zc_126 ?_);intro b5;refine qg (kB (l' := [v11]) si_126 (one_cells (by have := plc_one hpl; simpa using this)) ai (plc_one hpl) kR ab rfl kR.symm ?_);refine qd (qo ae ?_);refine qg (qf fi_25_0 aa ?_);intro p12 hp12;refine qg (ql sc_22 aa ?_);refine qg (qm sl_22 hi ?_);refine qg (make_own (k := ((fst1 xs).map idOf).length) un_77 (zero1_of zv_4 z_4 si_4 rfl) rfl rfl rfl (by have := hG.small; rw [List.length_map]; omega) ?_);intro v15 N15 hv15;refine qg (qa zc_77 ?_);intro b6;refine qg (kB (l' := [v15]) si_77 ac ai ad kR ab rfl kR.symm ?_);refine qd (qo ae ?_);refine qg (qa zc_131 ?_);intro b7;refine qd (qo ae ?_);refine qg (qg (kB (l' := [.func (.func 71) #[] [.pointer (some ⟨b5, 0, none⟩), .pointer (some ⟨b6, 0, none⟩), p2, .pointer (some ⟨b7, 0, none⟩)].toArray]) si_131 ac ai rfl kR ab rfl kR.symm ?_));refine qd ?_;refine DoRg.freezeBox ((zc ((zc ((za kR).trans zm)).trans zw)).trans zw) ?_;intro h5 le6 hfz;replace ho := ho.mono le6; replace hl := hl.mono le6; replace hp2 := hp2.mono le6; replace hpl := hpl.mono le6;have hat5 := At.box hfz;refine DoRg.freezeBox ((zc kR).trans zw) ?_;intro h7 le8 hfz;replace ho := ho.mono le8; replace hl := hl.mono le8; replace hp2 := hp2.mono le8; replace hpl := hpl.mono le8; replace hat5 := hat5.mono le8;have hat6 := At.box hfz;refine DoRg.freezeBox kR ?_;intro h9 le10 hfz;replace ho := ho.mono le10; replace hl := hl.mono le10; replace hp2 := hp2.mono le10; replace hpl := hpl.mono le10; replace hat5 := hat5.mono le10; replace hat6 := hat6.mono le10;have hat7 := At.box hfz;have hV : RVis _ (.pointer (some ⟨b5, 0, none⟩)) (.pointer (some ⟨b6, 0, none⟩)) p2 (.pointer (some ⟨b7, 0, none⟩)) xs iv ov v15 := ⟨⟨_, hat5, hpl⟩, hat6, hp2, hat7, ho⟩;refine qo ae ?_;refine qg (qg (qm sl_22 hl ?_));refine qg (qd ?_);refine qL (fun s0 nn s' h' L' => ∃ (k : Nat) (N : Own) (sb : List Bool), s' = [(19, .int .i64 k)] ++ qR s0 [6, 7, 17, 18] ∧ nn = l.length - k ∧ N ++ L = L' ∧ k ≤ l.length ∧ OS 4 1 v15 (sb.map bC) N ∧ Bits ((fst1 xs).map idOf) sb (fun z => ∃ q ∈ l.take k, Dn (fst1 xs) q z)) ⟨0, _, List.replicate ((fst1 xs).map idOf).length false, rfl, rfl, rfl, ?_⟩ zg zl zn ?_
 · exact ⟨Nat.zero_le _, by rw [List.map_replicate]; exact hv15, (bits_none _).congr fun z _ => by simp⟩
 rintro nn s1 h11 L_ le12 ⟨k, N, sb, rfl, rfl, rfl, hk, hvs, hB⟩;replace hl := hl.mono le12; replace hV := hV.mono le12;refine qo ae ?_;refine qg (lssB (fun c20 => ?_) (fun c20 => ?_))
 ·
  have hkl : k < l.length := by omega
  obtain ⟨q, hq⟩ := qE hkl;have hqm := List.mem_of_getElem? hq;have hq32 := h32 q (hall q hqm);have hcl : (idC q).length = 32 := by rw [idC_length, hq32]
  refine qd (qo ae ?_);refine qg (qi (k := k) sl_22 aa rfl hq ?_);intro p21 r21 hl21 hp21;refine qg (qP ag_74 aa aa ?_);refine qg (qa zc_74 ?_);intro b9;refine qg (kB (l' := idC q) si_74 ac hcl (idC_one _) kR ab (over_all (by rw [hcl, List.length_replicate])) kR.symm ?_);refine qd (qo ae ?_);refine qg (ql sc_131 hV.visit ?_);refine qg (qx (r := idC q) ag_74 kH (by rw [hcl]; decide) (by rw [List.drop_zero, List.take_of_length_le (by rw [hcl]; decide)]) ?_);refine qg (DoCall.osC ((zc kR).trans zm.symm) (reach1 hV hG h32 hf (f q + 1) q af (hall q hqm) _ zl _ _ _ _ hvs hB shut_all) ?_);rintro v25 h14 N25 le13 ⟨sb25, hv25, hB25⟩;refine ⟨_, ((zc kR).trans zm.symm).symm, ?_⟩;refine qd (qo ae ?_);refine qg (qA ak ?_);refine qg (qd ?_);exact back (m := _) ⟨k + 1, N25, sb25, rfl, rfl, rfl, by omega, hv25, bits_snoc hq hB25⟩ af (qh (zu (List.Sublist.append_left kS _))) zl zn
 ·
  refine qd (qo ae ?_);refine qg (ql (v := v15) sc_77 hV.seen ?_);refine qg (qd ?_);refine DoRet.r1 (.tmp rfl) (qh (List.Sublist.append_left kS _)) zl ?_;have hke : k = l.length := by omega
  rw [hke, List.take_length] at hB;exact ⟨N, rfl, sb, hvs, hB⟩
end Go.Brd
namespace Go.Brd
open Go Go.Brd Go.Proofs
set_option linter.unusedVariables false
def mk {α : Type} (xs : List α) (sb : List Bool) : List α := ((xs.zip sb).filter (·.2)).map (·.1)
theorem mk_nil {α : Type} (sb : List Bool) : mk ([] : List α) sb = [] := by simp [mk]
theorem mk_snoc {α : Type} {xs : List α} {sb : List Bool} {k : Nat} {x : α} {b : Bool} (hx : xs[k]? = some x) (hb : sb[k]? = some b) : mk (xs.take (k + 1)) sb = mk (xs.take k) sb ++ (if b then [x] else []) := by
 induction xs generalizing sb k with
 | nil => simp at hx
 | cons a r ih =>
  cases sb with
  | nil => simp at hb
  | cons c s =>
   cases k with
   | zero => simp at hx hb; subst hx hb; cases c <;> simp [mk]
   | succ k =>
    simp only [List.getElem?_cons_succ] at hx hb;have := ih hx hb;unfold mk at this ⊢;simp only [List.take_succ_cons, List.zip_cons_cons, List.filter_cons];cases c <;> simp [this]
theorem mk_sub {α : Type} (xs : List α) (sb : List Bool) : (mk xs sb).Sublist xs := by
 induction xs generalizing sb with
 | nil => simp [mk]
 | cons a r ih =>
  cases sb with
  | nil => simp [mk]
  | cons c s =>
   have := ih s;unfold mk at this ⊢;simp only [List.zip_cons_cons, List.filter_cons];cases c <;> simp
   · exact zu this
   · exact this
theorem mk_map {α β : Type} (f : α → β) (xs : List α) (sb : List Bool) : mk (xs.map f) sb = (mk xs sb).map f := by
 induction xs generalizing sb with
 | nil => simp [mk]
 | cons a r ih =>
  cases sb with
  | nil => simp [mk]
  | cons c s =>
   have := ih s;unfold mk at this ⊢;simp only [List.map_cons, List.zip_cons_cons, List.filter_cons];cases c <;> simp [this]
theorem mk_mem {α : Type} {x : α} : ∀ {xs : List α} {sb : List Bool}, x ∈ mk xs sb ↔ ∃ k : Nat, xs[k]? = some x ∧ sb[k]? = some true
 | [], sb => by simp [mk]
 | a :: r, [] => by simp [mk]
 | a :: r, c :: s => by
  have ih := mk_mem (x := x) (xs := r) (sb := s);have e : mk (a :: r) (c :: s) = (if c then [a] else []) ++ mk r s := by unfold mk; cases c <;> simp
  rw [e, List.mem_append, ih];constructor
  · rintro (h | ⟨k, h1, h2⟩)
    · cases c
      · simp at h
      · have : x = a := by simpa using h
        exact ⟨0, by simp [this], rfl⟩
    · exact ⟨k + 1, by simpa using h1, by simpa using h2⟩
  · rintro ⟨k, h1, h2⟩
    cases k with
    | zero => simp at h1 h2; subst h1 h2; left; simp
    | succ k => right; exact ⟨k, by simpa using h1, by simpa using h2⟩
theorem mk_bits {ids : List ID} {sb : List Bool} {M : ID → Prop} (hB : Bits ids sb M) {x : ID} : x ∈ mk ids sb ↔ x ∈ ids ∧ M x := by
 rw [mk_mem];constructor
 · rintro ⟨k, h1, h2⟩; exact ⟨List.mem_of_getElem? h1, (hB.2 k x h1).1 h2⟩
 · rintro ⟨h1, h2⟩
   obtain ⟨k, hk, e⟩ := List.getElem_of_mem h1;have h3 : ids[k]? = some x := by rw [List.getElem?_eq_getElem hk, e]
   exact ⟨k, h3, (hB.2 k x h3).2 h2⟩
theorem mk_bits_ops {l : List Op} {sb : List Bool} {M : ID → Prop} (hB : Bits (l.map idOf) sb M) {o : Op} (ho : o ∈ l) : o ∈ mk l sb ↔ M (idOf o) := by
 rw [mk_mem];constructor
 · rintro ⟨k, h1, h2⟩; exact (hB.2 k _ (map_get h1)).1 h2
 · intro h
   obtain ⟨k, hk, e⟩ := List.getElem_of_mem ho;have h3 : l[k]? = some o := by rw [List.getElem?_eq_getElem hk, e]
   exact ⟨k, h3, (hB.2 k _ (map_get h3)).2 h⟩
structure BelowOf (l : List Op) (qs : List ID) (A : List Op) : Prop where
 sub : A.Sublist l
 mem : ∀ o ∈ l, o ∈ A ↔ ∃ q ∈ qs, Dn l q (idOf o)
theorem belowOf_mk {l : List Op} {qs : List ID} {sb : List Bool} (hB : Bits (l.map idOf) sb (fun z => ∃ q ∈ qs, Dn l q z)) : BelowOf l qs (mk l sb) := ⟨mk_sub _ _, fun o ho => mk_bits_ops hB ho⟩
theorem anc_below {c : World} {h : GH} {L : Own} {iv ov lv : Value} {xs : List (Op × Value)} {l : List ID} (hg : GK h) (hi : RIds h iv ((fst1 xs).map idOf)) (ho : ROps h ov xs) (hG : GOk (fst1 xs)) (hl : RIds h lv l) (h20 : l.length ≤ 60) (hall : ∀ x ∈ l, x ∈ ((fst1 xs).map idOf)):
 Fun Tryz.prog c 7 #[gV iv ov, lv] h L (fun u h' L' => (∃ g : GrE, u = .tuple #[.agg (grC g).toArray, .int .i64 0] ∧ GR h' g ∧ BelowOf (fst1 xs) l (fst1 g.xs)) ∧ L = L') := by
 have h32 := hi.len32;have hfl := fst1_len xs;have h60 : xs.length ≤ 60 := by have := hG.small; omega
 refine kF (N := 65) (args := [gV iv ov, lv]) Tryz.func7 ?_;refine qo ae ?_;refine qg (box_at rfl ?_);intro p2 h2 le1 hp2;replace hg := hg.mono le1; replace hi := hi.mono le1; replace ho := ho.mono le1; replace hl := hl.mono le1;refine qg (qa zc_25 ?_);intro b4;refine qg (qd (qo ae ?_));refine qg (qX ag_25 aa ag ?_);refine qg (qg (qc (anc_missing hg hi ho hG hl h20 hall) ?_));rintro v15 h4 L_ le3 ⟨⟨z15, rfl, hz15⟩, rfl⟩;replace hi := hi.mono le3; replace ho := ho.mono le3; replace hl := hl.mono le3; replace hp2 := hp2.mono le3;refine qg (qg (qg (qg (qg (qd (qo ae ?_))))));refine qg (qg (neqB (fun c20 => ?_) (fun c20 => ?_)))
 ·
  omega
 ·
  refine qg (qd (qo ae ?_));refine qg (qg (qm sl_22 hz15 ?_));refine qg (gtrB (fun c26 => ?_) (fun c26 => ?_))
  ·
   simp at c26
  ·
   refine qg (qd (qo ae ?_));refine qg (qa zc_25 ?_);intro b8;refine qd (qo ae ?_);refine qg (qX ag_25 aa ag ?_);refine qg (qg (qc (anc_reach hi ho hG hl hall) ?_));rintro v30 h6 L_ le5 ⟨N30, rfl, sb, hvs, hB⟩;replace hi := hi.mono le5; replace ho := ho.mono le5; replace hp2 := hp2.mono le5;have hBl : sb.length = xs.length := by rw [hB.1, List.length_map, fst1_len]
   refine qg (len_os sl_77 hvs ?_);refine qg (qd ?_);refine qL (fun s0 nn s' h' L' => ∃ (k : Nat) (vi : Value) (vo : Value) (Ni : Own) (No : Own) (ys : List (Op × Value)), s' = [(32, .int .i64 k)] ++ qR s0 [2, 4, 8, 30, 31] ∧ nn = xs.length - k ∧ No ++ (Ni ++ (N30 ++ ((b8, .cells [vi, vo].toArray 25 (0, 0)) :: (b4, .cells [.slice none 0 0, .slice none 0 0].toArray 25 (0, 0)) :: L))) = L' ∧ k ≤ xs.length ∧ OS 74 32 vi (((fst1 ys).map idOf).map idC) Ni ∧ OS 61 11 vo (ys.map opC) No ∧ RAll h' ys ∧ fst1 ys = mk ((fst1 xs).take k) sb) ⟨0, _, _, [], [], [], rfl, rfl, rfl, ?_⟩ zg zl zn ?_
   · exact ⟨Nat.zero_le _, OS.nil _ _, OS.nil _ _, RAll.nil _, by rw [List.take_zero, mk_nil]; rfl⟩
   rintro nn s1 h7 L_ le8 ⟨k, vi, vo, Ni, No, ys, rfl, rfl, rfl, hk, hvi, hvo, hys, hfy⟩;replace hi := hi.mono le8; replace ho := ho.mono le8; replace hp2 := hp2.mono le8;refine qo ae ?_;refine qg (lssB (fun c33 => ?_) (fun c33 => ?_))
   ·
    have hkl : k < xs.length := by rw [List.length_map, hBl] at c33; omega
    obtain ⟨b36, hb⟩ := qE (l := sb) (k := k) af;obtain ⟨y, hy⟩ := qE hkl;have hry := ho.each y (List.mem_of_getElem? hy);have hyo := fst1_mem hy;have hyl := fst1_len ys;have hpl := hG.preds_le (fst1_at hy);refine qd (qo ae ?_);refine qg (qg (index_os (k := k) sl_77 aa rfl (by rw [List.length_map, hBl]; exact hkl) ?_));intro p35 hp35;refine qg (load_os1 sc_4 aa aa (fun e he => (zq (zq (List.mem_append_left _ he)))) (map_get hb) rfl ?_);refine qg (qg (qd (qo ae ?_)));refine qg (qd ?_);cases hb36 : b36
    ·
     refine qo ae ?_;refine qg (qA ak ?_);refine qg (qd ?_);exact back (m := _) ⟨k + 1, vi, vo, Ni, No, ys, rfl, rfl, rfl, by omega, hvi, hvo, hys, by rw [mk_snoc (fst1_at hy) hb, hb36, hfy]; simp⟩ af zg zl zn
    ·
     have hyrec : ys.length ≤ k := by have h9 := congrArg List.length hfy; rw [fst1_len] at h9; have h8 := (mk_sub ((fst1 xs).take k) sb).length_le; rw [List.length_take] at h8; omega
     refine qo ae ?_;refine qg (qf fi_25_1 aa ?_);intro p38 hp38;refine qg (ql sc_23 aa ?_);refine qg (qg (qi (k := k) sl_23 ho.sl rfl hy ?_));intro p41 r41 hl41 hp41;refine qg (qP ag_61 hp41 rfl ?_);refine qg (qa zc_61 ?_);intro b11;refine qg (kB (l' := opC y) si_61 ac ai (opC_one2 (Sl.one hry.preds)) kR ab rfl kR.symm ?_);refine qd (qo ae ?_);refine qg (qw fi_61_1 ?_);refine qg (qO (v := y.2) sc_22 kH rfl ?_);refine qg (qc (Fun.frozen al (clone_id (show RIds _ y.2 y.1.preds from hry.preds) al)) ?_);rintro v45 h10 L_ le9 ⟨rfl, hv45⟩;replace hi := hi.mono le9; replace hp2 := hp2.mono le9; replace hys := hys.mono le9;refine qg (qw fi_61_1 ?_);refine qg (kB (l' := opC (y.1, v45)) si_22 ac ai ad kR ab rfl kR.symm ?_);refine qd ?_;refine DoDraw.cutP (fun s0 s' h' L' => ∃ (vi2 : Value) (vo2 : Value) (Ni2 : Own) (No2 : Own), s' = [] ++ qR s0 [2, 4, 8, 30, 31, 32] ∧ L'.Perm (No2 ++ (Ni2 ++ ((b11, .cells (opC (y.1, v45)).toArray 61 (0, 0)) :: (N30 ++ ((b8, .cells [vi2, vo2].toArray 25 (0, 0)) :: (b4, .cells [.slice none 0 0, .slice none 0 0].toArray 25 (0, 0)) :: L))))) ∧ OS 74 32 vi2 (((fst1 ys).map idOf).map idC ++ [idC (idOf y.1)]) Ni2 ∧ OS 61 11 vo2 (ys.map opC ++ [opC (y.1, v45)]) No2) ?_ ?_
     ·
      refine D6.introsS mixed [15, 17] [0, 1, 2, 3, 4, 5, 6, 9, 10, 11, 7, 8, 14, 12, 13, 15, 16, 17] [[0, 1, 2, 3, 4, 5, 6, 9, 10, 11, 7, 12, 8, 14, 13, 15, 16, 17], [0, 1, 2, 3, 4, 5, 6, 9, 10, 11, 12, 7, 8, 14, 13, 15, 16, 17]] (_ :: (_ :: [])) ae (qq (kT (zq (zq (zq kH)))) (qq kH sub_nil)) (fcons ?_ (fcons ?_ (fcons ?_ fnil)))
      ·
       refine qr rfl rfl rfl (qw fi_25_0 ?_);refine qr rfl rfl rfl (qO (v := vi) sc_22 kH rfl ?_);refine qr rfl rfl rfl (qf fi_25_0 aa ?_);intro p49 hp49;refine qr rfl rfl rfl (ql sc_22 aa ?_);refine qr rfl rfl rfl (qr rfl rfl rfl (qi (k := k) sl_22 hi rfl (map_get (fst1_at hy)) ?_));intro p52 r52 hl52 hp52;refine qr rfl rfl rfl (qP ag_74 aa aa ?_);refine qr rfl rfl rfl (qw fi_25_1 ?_);refine qr rfl rfl rfl (qO (v := vo) sc_23 kH rfl ?_);refine qr rfl rfl rfl (qx (r := opC (y.1, v45)) ag_61 (kT kH) ab rfl ?_);refine qj rfl rfl rfl ?_;refine qB sl_22 z_74 rfl ag ah (idC_one _) ?_;intro v54 h12 le11 hv54;replace hv45 := hv45.mono le11;refine ⟨(qq (kT (zq (zq (zq kH)))) (qq kH sub_nil)), ?_⟩;refine qj rfl rfl rfl ?_;refine qp sl_22 sl_22 z_74 aa aa ((zc ((za kR).trans (List.perm_append_comm_assoc _ _ _))).trans zm.symm) (by rw [List.length_map, List.length_map, hyl]; simp; omega) ?_;intro v55 N55 hv55;refine ⟨_, ((zc ((za kR).trans (List.perm_append_comm_assoc _ _ _))).trans zm.symm).symm, ?_⟩;refine ⟨(qq (kT (zq (zq (zq kH)))) (qq kH sub_nil)), ?_⟩;refine qr rfl rfl rfl (qw fi_25_0 ?_);refine qj rfl rfl rfl ?_;refine qB sl_23 z_61 rfl ag ah (opC_one2 (Sl.one hv45)) ?_;intro v59 h14 le13 hv59;refine ⟨(qq (kT (zq (zq (zq kH)))) (qq kH sub_nil)), ?_⟩;refine qj rfl rfl rfl ?_;refine qp sl_23 sl_23 z_61 aa aa ((zc kR).trans zm.symm) (by rw [List.length_map]; simp; omega) ?_;intro v60 N60 hv60;refine ⟨_, ((zc kR).trans zm.symm).symm, ?_⟩;refine ⟨(qq (kT (zq (zq (zq kH)))) (qq kH sub_nil)), ?_⟩;refine DoDr.drop rfl rfl rfl ?_;refine kB (l' := [v55, vo]) si_22 ac ai ad ((zc ((za ((za ((za kR).trans zm)).trans zm)).trans zm)).trans zw) ab rfl ((zc ((za ((za ((za kR).trans zm)).trans zm)).trans zm)).trans zw).symm ?_;refine qr rfl rfl rfl (qw fi_25_1 ?_);refine DoDr.drop rfl rfl rfl ?_;refine kB (l' := [v55, v60]) si_23 ac ai ad ((zc ((za ((za ((za kR).trans zm)).trans zm)).trans zm)).trans zw) ab rfl ((zc ((za ((za ((za kR).trans zm)).trans zm)).trans zm)).trans zw).symm ?_;exact qe zn ⟨_, _, _, _, rfl, (((zc kR).trans zm.symm).trans (za (((zc kR).trans zm.symm).trans (za (kR.trans (zc (kR.trans (za (kR.trans (zc (kR.trans (zc kR)))))))))))), hv55, hv60⟩
      ·
       refine qr rfl rfl rfl (qw fi_25_0 ?_);refine qr rfl rfl rfl (qO (v := vi) sc_22 kH rfl ?_);refine qr rfl rfl rfl (qf fi_25_0 aa ?_);intro p49 hp49;refine qr rfl rfl rfl (ql sc_22 aa ?_);refine qr rfl rfl rfl (qr rfl rfl rfl (qi (k := k) sl_22 hi rfl (map_get (fst1_at hy)) ?_));intro p52 r52 hl52 hp52;refine qr rfl rfl rfl (qP ag_74 aa aa ?_);refine qr rfl rfl rfl (qw fi_25_1 ?_);refine qr rfl rfl rfl (qO (v := vo) sc_23 kH rfl ?_);refine qr rfl rfl rfl (qx (r := opC (y.1, v45)) ag_61 (kT kH) ab rfl ?_);refine qj rfl rfl rfl ?_;refine qB sl_22 z_74 rfl ag ah (idC_one _) ?_;intro v54 h16 le15 hv54;replace hv45 := hv45.mono le15;refine ⟨(qq (kT (zq (zq (zq kH)))) (qq kH sub_nil)), ?_⟩;refine qj rfl rfl rfl ?_;refine qB sl_23 z_61 rfl ag ah (opC_one2 (Sl.one hv45)) ?_;intro v59 h18 le17 hv59;replace hv54 := hv54.mono le17;refine ⟨(qq (kT (zq (zq (zq kH)))) (qq kH sub_nil)), ?_⟩;refine qj rfl rfl rfl ?_;refine qp sl_22 sl_22 z_74 aa aa ((zc ((za kR).trans (List.perm_append_comm_assoc _ _ _))).trans zm.symm) (by rw [List.length_map, List.length_map, hyl]; simp; omega) ?_;intro v55 N55 hv55;refine ⟨_, ((zc ((za kR).trans (List.perm_append_comm_assoc _ _ _))).trans zm.symm).symm, ?_⟩;refine ⟨(qq (kT (zq (zq (zq kH)))) (qq kH sub_nil)), ?_⟩;refine qr rfl rfl rfl (qw fi_25_0 ?_);refine qj rfl rfl rfl ?_;refine qp sl_23 sl_23 z_61 aa aa ((zc kR).trans zm.symm) (by rw [List.length_map]; simp; omega) ?_;intro v60 N60 hv60;refine ⟨_, ((zc kR).trans zm.symm).symm, ?_⟩;refine ⟨(qq (kT (zq (zq (zq kH)))) (qq kH sub_nil)), ?_⟩;refine DoDr.drop rfl rfl rfl ?_;refine kB (l' := [v55, vo]) si_22 ac ai ad ((zc ((za ((za ((za kR).trans zm)).trans zm)).trans zm)).trans zw) ab rfl ((zc ((za ((za ((za kR).trans zm)).trans zm)).trans zm)).trans zw).symm ?_;refine qr rfl rfl rfl (qw fi_25_1 ?_);refine DoDr.drop rfl rfl rfl ?_;refine kB (l' := [v55, v60]) si_23 ac ai ad ((zc ((za ((za ((za kR).trans zm)).trans zm)).trans zm)).trans zw) ab rfl ((zc ((za ((za ((za kR).trans zm)).trans zm)).trans zm)).trans zw).symm ?_;exact qe zn ⟨_, _, _, _, rfl, (((zc kR).trans zm.symm).trans (za (((zc kR).trans zm.symm).trans (za (kR.trans (zc (kR.trans (za (kR.trans (zc (kR.trans (zc kR)))))))))))), hv55, hv60⟩
      ·
       refine qr rfl rfl rfl (qw fi_25_0 ?_);refine qr rfl rfl rfl (qO (v := vi) sc_22 kH rfl ?_);refine qr rfl rfl rfl (qf fi_25_0 aa ?_);intro p49 hp49;refine qr rfl rfl rfl (ql sc_22 aa ?_);refine qr rfl rfl rfl (qr rfl rfl rfl (qi (k := k) sl_22 hi rfl (map_get (fst1_at hy)) ?_));intro p52 r52 hl52 hp52;refine qr rfl rfl rfl (qP ag_74 aa aa ?_);refine qr rfl rfl rfl (qw fi_25_1 ?_);refine qr rfl rfl rfl (qO (v := vo) sc_23 kH rfl ?_);refine qr rfl rfl rfl (qx (r := opC (y.1, v45)) ag_61 (kT kH) ab rfl ?_);refine qj rfl rfl rfl ?_;refine qB sl_23 z_61 rfl ag ah (opC_one2 (Sl.one hv45)) ?_;intro v59 h20 le19 hv59;refine ⟨(qq (kT (zq (zq (zq kH)))) (qq kH sub_nil)), ?_⟩;refine qj rfl rfl rfl ?_;refine qB sl_22 z_74 rfl ag ah (idC_one _) ?_;intro v54 h22 le21 hv54;replace hv59 := hv59.mono le21;refine ⟨(qq (kT (zq (zq (zq kH)))) (qq kH sub_nil)), ?_⟩;refine qj rfl rfl rfl ?_;refine qp sl_22 sl_22 z_74 aa aa ((zc ((za kR).trans (List.perm_append_comm_assoc _ _ _))).trans zm.symm) (by rw [List.length_map, List.length_map, hyl]; simp; omega) ?_;intro v55 N55 hv55;refine ⟨_, ((zc ((za kR).trans (List.perm_append_comm_assoc _ _ _))).trans zm.symm).symm, ?_⟩;refine ⟨(qq (kT (zq (zq (zq kH)))) (qq kH sub_nil)), ?_⟩;refine qr rfl rfl rfl (qw fi_25_0 ?_);refine qj rfl rfl rfl ?_;refine qp sl_23 sl_23 z_61 aa aa ((zc kR).trans zm.symm) (by rw [List.length_map]; simp; omega) ?_;intro v60 N60 hv60;refine ⟨_, ((zc kR).trans zm.symm).symm, ?_⟩;refine ⟨(qq (kT (zq (zq (zq kH)))) (qq kH sub_nil)), ?_⟩;refine DoDr.drop rfl rfl rfl ?_;refine kB (l' := [v55, vo]) si_22 ac ai ad ((zc ((za ((za ((za kR).trans zm)).trans zm)).trans zm)).trans zw) ab rfl ((zc ((za ((za ((za kR).trans zm)).trans zm)).trans zm)).trans zw).symm ?_;refine qr rfl rfl rfl (qw fi_25_1 ?_);refine DoDr.drop rfl rfl rfl ?_;refine kB (l' := [v55, v60]) si_23 ac ai ad ((zc ((za ((za ((za kR).trans zm)).trans zm)).trans zm)).trans zw) ab rfl ((zc ((za ((za ((za kR).trans zm)).trans zm)).trans zm)).trans zw).symm ?_;exact qe zn ⟨_, _, _, _, rfl, (((zc kR).trans zm.symm).trans (za (((zc kR).trans zm.symm).trans (za (kR.trans (zc (kR.trans (za (kR.trans (zc (kR.trans (zc kR)))))))))))), hv55, hv60⟩
     ·
      rintro s1 h23 L_ le24 ⟨vi2, vo2, Ni2, No2, rfl, hpm, hvi2, hvo2⟩;refine ⟨_, hpm, ?_⟩;replace hys := hys.mono le24; replace hv45 := hv45.mono le24;refine qo ae ?_;refine qg (qA ak ?_);refine qg (qd ?_);exact back (m := _) ⟨k + 1, vi2, vo2, Ni2, No2, ys ++ [(y.1, v45)], rfl, rfl, rfl, by omega, by rw [fst1, List.map_append, List.map_append, List.map_append]; exact hvi2, by rw [List.map_append]; exact hvo2, hys.snoc hv45 hry.wf, by rw [mk_snoc (fst1_at hy) hb, hb36, fst1, List.map_append]; exact congrArg (· ++ [y.1]) hfy⟩ af (qh (List.Sublist.append_left (List.Sublist.append_left (zu (List.Sublist.append_left (zv (zv kS)) _)) _) _)) zl zn
   ·
    refine qd (qo ae ?_);refine qg (qx (r := [vi, vo]) ag_25 (zq (zq (zq kH))) ab rfl ?_);refine qg (kB (l' := [vi, vo]) si_25 ac ai (show ([vi, vo] : List Value).all oneCell = true by simp [OS.one hvi, OS.one hvo]) ((za ((za ((za ((zc kR).trans zw)).trans zm)).trans zm)).trans zm) ab rfl ((za ((za ((za ((zc kR).trans zw)).trans zm)).trans zm)).trans zm).symm ?_);refine qg (qd ?_);have hke : k = xs.length := by rw [List.length_map, hBl] at c33; omega
    rw [hke, List.take_of_length_le af] at hfy;have hysl : ys.length ≤ 60 := by have h9 := congrArg List.length hfy; rw [fst1_len] at h9; have h8 := (mk_sub (fst1 xs) sb).length_le; omega
    refine DoRet.freeze hvi (by rw [List.length_map, List.length_map, fst1_len]; omega) ((za kR).trans (List.perm_append_comm_assoc _ _ _)) ?_;intro h25 le26 hvi;replace hys := hys.mono le26;refine DoRet.freeze hvo al kR ?_;intro h27 le28 hvo;replace hys := hys.mono le28; replace hvi := hvi.mono le28;refine DoRet.r2 (.cell rfl (qx (r := [vi, vo]) ag_25 (zq (kT kH)) ab rfl rfl)) (.tmp rfl) (qh (List.Sublist.trans (zu (zu kS)) (List.sublist_append_right _ _))) zl ?_;exact ⟨⟨⟨vi, vo, ys⟩, rfl, ⟨hvi, ⟨hvo, hys⟩⟩, by rw [show fst1 (GrE.mk vi vo ys).xs = mk (fst1 xs) sb from hfy]; exact belowOf_mk hB⟩, rfl⟩
end Go.Brd
namespace Go.Brd
open Go Go.Brd Go.Proofs
set_option linter.unusedVariables false
theorem ag_97 : aggN Tryz.prog 97 33 = true := by kernel_rfl
theorem fi_97_0 : fieldIs Tryz.prog 97 0 0 = true := by kernel_rfl
theorem fi_97_1 : fieldIs Tryz.prog 97 1 1 = true := by kernel_rfl
theorem kcmp_cases (a b : ByteArray) : kcmp a b = -1 ∨ kcmp a b = 0 ∨ kcmp a b = 1 := cmp_cases _ _
theorem kcmp_flip (a b : ByteArray) : kcmp b a = - kcmp a b := cmp_flip _ _
theorem kcmp_trans {a b c : ByteArray} (h1 : kcmp a b < 0) (h2 : kcmp b c < 0) : kcmp a c < 0 := cmp_trans h1 h2
abbrev Tag := ByteArray × ID
def tagC (t : Tag) : List Value := .string t.1 :: idC t.2
def tcmp (x y : Tag) : Int := if kcmp x.1 y.1 = 0 then Lib.compareBytes x.2 y.2 else kcmp x.1 y.1
theorem tagC_length (t : Tag) : (tagC t).length = t.2.length + 1 := by simp [tagC, idC_length]
theorem tcmp_cases (x y : Tag) : tcmp x y = -1 ∨ tcmp x y = 0 ∨ tcmp x y = 1 := by
 unfold tcmp; split
 · exact cmp_cases _ _
 · exact kcmp_cases _ _
theorem tcmp_flip (x y : Tag) : tcmp y x = - tcmp x y := by
 unfold tcmp;have := kcmp_flip x.1 y.1;by_cases h : kcmp x.1 y.1 = 0
 · rw [if_pos h, if_pos af]; exact cmp_flip _ _
 · rw [if_neg h, if_neg af]; exact this
theorem tcmp_zero {x y : Tag} : tcmp x y = 0 ↔ x = y := by
 unfold tcmp;constructor
 · intro h
   split at h
   · rename_i h1; exact Prod.ext (kcmp_zero.1 h1) (cmp_id_iff.1 h)
   · rename_i h1; exact absurd h h1
 · rintro rfl; rw [if_pos (kcmp_zero.2 rfl)]; exact cmp_id_iff.2 rfl
theorem tcmp_trans {x y z : Tag} (h1 : tcmp x y < 0) (h2 : tcmp y z < 0) : tcmp x z < 0 := by
 unfold tcmp at *;split at h1 <;> split at h2
 · rename_i e1 e2; rw [kcmp_zero.1 e1, kcmp_zero.1 e2, if_pos (kcmp_zero.2 rfl)]; exact cmp_trans h1 h2
 · rename_i e1 e2; rw [kcmp_zero.1 e1, if_neg e2]; exact h2
 · rename_i e1 e2; rw [← kcmp_zero.1 e2, if_neg e1]; exact h1
 · have := kcmp_trans h1 h2; rw [if_neg af]; exact this
theorem isnan_str {c : World} {h : GH} {L : Own} {a : ByteArray}:
 Fun Tryz.prog c 175 #[.string a] h L (fun u _ L' => u = .bool false ∧ L = L') := by
 refine kF (N := 6) (args := [.string a]) Tryz.func175 ?_;refine qo ae ?_;refine qg (qd (qo ae ?_));refine qg (qg (qg (neqS (fun c5 => ?_) (fun c5 => ?_))))
 ·
  exact absurd rfl c5
 ·
  refine qg (qd ?_);refine ze rfl ?_;exact ⟨rfl, rfl⟩
theorem compare_str {c : World} {h : GH} {L : Own} {a b : ByteArray}:
 Fun Tryz.prog c 116 #[.string a, .string b] h L (fun u _ L' => u = .int .i64 (kcmp a b) ∧ L = L') := by
 have hc := kcmp_cases a b;refine kF (N := 20) (args := [.string a, .string b]) Tryz.func116 ?_;refine qo ae ?_;refine qg (qd (qo ae ?_));refine qg (qg (qc (isnan_str) ?_));rintro v8 h2 L_ le1 ⟨rfl, rfl⟩;refine qg (qd (qo ae ?_));refine qg (qg (qc (isnan_str) ?_));rintro v10 h4 L_ le3 ⟨rfl, rfl⟩;refine qg (qd (qo ae ?_));refine qg (qd (qo ae ?_));refine qg (qd (qo ae ?_));refine qg (qg (qg (lssK (fun c16 => ?_) (fun c16 => ?_))))
 ·
  refine qd (qo ae ?_);refine qg (qd ?_);refine ze rfl ?_;have e : kcmp a b = -1 := by omega
  rw [e]; exact ⟨rfl, rfl⟩
 ·
  refine qd (qo ae ?_);refine qg (qg (qg (gtrK (fun c19 => ?_) (fun c19 => ?_))))
  ·
   refine qd (qo ae ?_);refine qg (qd ?_);refine ze rfl ?_;have e : kcmp a b = 1 := by omega
   rw [e]; exact ⟨rfl, rfl⟩
  ·
   refine qd (qo ae ?_);refine qg (qd ?_);refine ze rfl ?_;have e : kcmp a b = 0 := by omega
   rw [e]; exact ⟨rfl, rfl⟩
theorem cmp_or2 {c : World} {h : GH} {L : Own} {v : Value} {a b : Int} (hs : Sl h v 1 [[.int .i64 a], [.int .i64 b]]):
 Fun Tryz.prog c 115 #[v] h L (fun u _ L' => u = .int .i64 (if a = 0 then b else a) ∧ L = L') := by
 refine kF (N := 18) (args := [v]) Tryz.func115 ?_;refine qo ae ?_;refine qg (qd (qo ae ?_));refine qg (qd (qo ae ?_));refine qg (qg (len_sl sl_159 aa ?_));refine qg (qd ?_);refine qL (fun s0 nn s' h' L' => ∃ (k : Nat), s' = [(8, .int .i64 k)] ++ qR s0 [3, 6, 7] ∧ nn = 2 - k ∧ L = L' ∧ k ≤ 2 ∧ (1 ≤ k → a = 0) ∧ (2 ≤ k → b = 0)) ⟨0, rfl, rfl, rfl, ?_⟩ zg zl zn ?_
 · exact ⟨Nat.zero_le _, fun h => by omega, fun h => by omega⟩
 rintro nn s1 h1 L_ le2 ⟨k, rfl, rfl, rfl, hk, h1a, h2b⟩;replace hs := hs.mono le2;refine qo ae ?_;refine qg (lssB (fun c9 => ?_) (fun c9 => ?_))
 ·
  have hkl : k < 2 := by simp at c9; omega
  obtain ⟨z, hz, hzz⟩ : ∃ z, ([[.int .i64 a], [.int .i64 b]] : List (List Value))[k]? = some [.int .i64 z] ∧ z = if k = 0 then a else b := by
   rcases (show k = 0 ∨ k = 1 by omega) with rfl | rfl
   · exact ⟨a, rfl, rfl⟩
   · exact ⟨b, rfl, rfl⟩
  refine qd (qo ae ?_);refine qg (index_at (k := k) sl_159 hs rfl hz ?_);intro p10 r10 hp10;refine qg (ql sc_3 aa ?_);refine qg (qd (qo ae ?_));refine qg (qg (qg (neqB (fun c14 => ?_) (fun c14 => ?_))))
  ·
   refine qd (qo ae ?_);refine qg (qg (qd ?_));refine ze rfl ?_;rcases (show k = 0 ∨ k = 1 by omega) with rfl | rfl
   · simp at hzz; subst hzz; rw [if_neg c14]; exact ⟨rfl, rfl⟩
   · simp at hzz; subst hzz; rw [if_pos (h1a af)]; exact ⟨rfl, rfl⟩
  ·
   refine qd (qo ae ?_);refine qg (qA ak ?_);refine qg (qd ?_)
   have q1 : 1 ≤ k + 1 → a = 0 := fun _ => by
    by_cases hk0 : k = 0
    · rw [if_pos hk0] at hzz; omega
    · exact h1a af
   have q2 : 2 ≤ k + 1 → b = 0 := fun h => by rw [if_neg af] at hzz; omega
   exact back (m := _) ⟨k + 1, rfl, rfl, rfl, by omega, q1, q2⟩ af zg zl zn
 ·
  refine qd (qo ae ?_);refine qg (qg (qd ?_));refine ze rfl ?_;have hk2 : k = 2 := by simp at c9; omega
  rw [if_pos (h1a af), h2b af]; exact ⟨rfl, rfl⟩
theorem orset_cmp {c : World} {h : GH} {L : Own} {x y : Tag} (hx : (idC x.2).length = 32) (hy : (idC y.2).length = 32):
 Fun Tryz.prog c 76 #[.agg (tagC x).toArray, .agg (tagC y).toArray] h L (fun u _ L' => u = .int .i64 (tcmp x y) ∧ L = L') := by
 refine kF (N := 17) (args := [.agg (tagC x).toArray, .agg (tagC y).toArray]) Tryz.func76 ?_;refine qo ae ?_;refine qg (box_at rfl ?_);intro p2 h2 le1 hp2;refine qg (box_at rfl ?_);intro p3 h4 le3 hp3;replace hp2 := hp2.mono le3;refine qg (qd ?_);refine qD mixed [] [0, 1, 2, 3, 5, 6, 7, 8, 4, 9, 10, 11, 12] [] ae sub_nil ?_;refine qr rfl rfl rfl (qf fi_97_0 aa ?_);intro p5 hp5;refine qr rfl rfl rfl (ql sc_9 aa ?_);refine qr rfl rfl rfl (qf fi_97_0 aa ?_);intro p7 hp7;refine qr rfl rfl rfl (ql sc_9 aa ?_);refine qr rfl rfl rfl (qf fi_97_1 hp2 ?_);intro p10 hp10x;have hp10 : At _ p10 (idC x.2) := hp10x;refine qr rfl rfl rfl (slice_idX ar_74 aa aa ?_);intro v11 hv11;refine qr rfl rfl rfl (qf fi_97_1 hp3 ?_);intro p12 hp12x;have hp12 : At _ p12 (idC y.2) := hp12x;refine qr rfl rfl rfl (slice_idX ar_74 aa aa ?_);intro v13 hv13;refine qj rfl rfl rfl ?_;refine qc (compare_str (a := x.1) (b := y.1)) ?_;rintro v9 h6 L_ le5 ⟨rfl, rfl⟩;replace hv11 := hv11.mono le5; replace hv13 := hv13.mono le5;refine ⟨am, ?_⟩;refine qj rfl rfl rfl ?_;refine qc (bytes_compare hv11 hv13) ?_;rintro v14 h8 L_ le7 ⟨rfl, rfl⟩;refine ⟨am, ?_⟩;refine qj rfl rfl rfl ?_;refine buildSliceN (ls := [[_], [_]]) sl_159 zc_3 (qy ac (qy ac Parts.nil)) rfl rfl (all2 rfl rfl) (all2 ad ad) ah ah ?_;intro v15 h10 le9 hv15;refine ⟨am, ?_⟩;refine qj rfl rfl rfl ?_;refine qc (cmp_or2 hv15) ?_;rintro v16 h12 L_ le11 ⟨rfl, rfl⟩;refine ⟨am, ?_⟩;refine qr rfl rfl rfl (qe zf ?_);refine ze rfl ?_;exact ⟨rfl, rfl⟩
theorem ref21_less {c : World} {h : GH} {L : Own} {x y : Tag} (hx : (idC x.2).length = 32) (hy : (idC y.2).length = 32):
 Fun Tryz.prog c 83 #[.agg (tagC x).toArray, .agg (tagC y).toArray] h L (fun u _ L' => u = .bool (decide (tcmp x y < 0)) ∧ L = L') := by
 have hz := @kcmp_zero x.1 y.1;refine kF (N := 21) (args := [.agg (tagC x).toArray, .agg (tagC y).toArray]) Tryz.func83 ?_;refine qo ae ?_;refine qg (box_at rfl ?_);intro p2 h2 le1 hp2;refine qg (box_at rfl ?_);intro p3 h4 le3 hp3;replace hp2 := hp2.mono le3;refine qg (qd (qo ae ?_));refine qg (qf fi_97_0 aa ?_);intro p5 hp5;refine qg (ql (v := .string x.1) sc_9 hp5 ?_);refine qg (qf fi_97_0 aa ?_);intro p7 hp7;refine qg (ql (v := .string y.1) sc_9 hp7 ?_);refine qg (neqS (fun c9 => ?_) (fun c9 => ?_))
 ·
  refine qd (qo ae ?_);refine qg (qf fi_97_0 aa ?_);intro p10 hp10;refine qg (ql (v := .string x.1) sc_9 hp10 ?_);refine qg (qf fi_97_0 aa ?_);intro p12 hp12;refine qg (ql (v := .string y.1) sc_9 hp12 ?_);refine qg (lssK (fun c14 => ?_) (fun c14 => ?_))
  ·
   refine qg (qd ?_);refine ze rfl ?_;have h9 : tcmp x y < 0 := by unfold tcmp; rw [if_neg (fun e => c9 (hz.1 e))]; exact c14
   exact ⟨by rw [decide_eq_true h9], rfl⟩
  ·
   refine qg (qd ?_);refine ze rfl ?_;have h9 : ¬ tcmp x y < 0 := by unfold tcmp; rw [if_neg (fun e => c9 (hz.1 e))]; exact c14
   exact ⟨by rw [decide_eq_false h9], rfl⟩
 ·
  refine qd (qo ae ?_);refine qg (qf fi_97_1 hp2 ?_);intro p15 hp15x;have hp15 : At _ p15 (idC x.2) := hp15x;refine qg (qX ag_74 hp15 hx ?_);refine qg (qf fi_97_1 hp3 ?_);intro p17 hp17x;have hp17 : At _ p17 (idC y.2) := hp17x;refine qg (qX ag_74 hp17 hy ?_);refine qg (qc (ref_cmp hx hy) ?_);rintro v19 h6 L_ le5 ⟨rfl, rfl⟩;refine qg (lssB (fun c20 => ?_) (fun c20 => ?_))
  ·
   refine qg (qd ?_);refine ze rfl ?_;have h9 : tcmp x y < 0 := by unfold tcmp; rw [if_pos (hz.2 c9)]; exact c20
   exact ⟨by rw [decide_eq_true h9], rfl⟩
  ·
   refine qg (qd ?_);refine ze rfl ?_;have h9 : ¬ tcmp x y < 0 := by unfold tcmp; rw [if_pos (hz.2 c9)]; exact c20
   exact ⟨by rw [decide_eq_false h9], rfl⟩
theorem top_lessw {c : World} {h : GH} {L : Own} {x y : Tag} (hx : (idC x.2).length = 32) (hy : (idC y.2).length = 32):
 Fun Tryz.prog c 43 #[.agg (tagC x).toArray, .agg (tagC y).toArray] h L (fun u _ L' => u = .int .i64 (tcmp x y) ∧ L = L') := by
 have hc := tcmp_cases x y;have hfl := tcmp_flip x y;refine kF (N := 11) (args := [.agg (tagC x).toArray, .agg (tagC y).toArray]) Tryz.func43 ?_;refine qo ae ?_;refine qg (box_at rfl ?_);intro p2 h2 le1 hp2;refine qg (box_at rfl ?_);intro p3 h4 le3 hp3;replace hp2 := hp2.mono le3;refine qg (qd (qo ae ?_));refine qg (qX ag_97 hp2 (show (tagC x).length = 33 by rw [tagC_length]; rw [idC_length] at hx; omega) ?_);refine qg (qX ag_97 hp3 (show (tagC y).length = 33 by rw [tagC_length]; rw [idC_length] at hy; omega) ?_);refine qg (qc (ref21_less (x := x) (y := y) hx hy) ?_);rintro v7 h6 L_ le5 ⟨rfl, rfl⟩;replace hp2 := hp2.mono le5; replace hp3 := hp3.mono le5;obtain ⟨b7, hb7⟩ : ∃ b, decide (tcmp x y < 0) = b := ⟨_, rfl⟩;rw [hb7];refine qd ?_;cases b7
 ·
  refine qo ae ?_;refine qg (qX ag_97 hp3 (show (tagC y).length = 33 by rw [tagC_length]; rw [idC_length] at hy; omega) ?_);refine qg (qX ag_97 hp2 (show (tagC x).length = 33 by rw [tagC_length]; rw [idC_length] at hx; omega) ?_);refine qg (qc (ref21_less (x := y) (y := x) hy hx) ?_);rintro v10 h8 L_ le7 ⟨rfl, rfl⟩;obtain ⟨b10, hb10⟩ : ∃ b, decide (tcmp y x < 0) = b := ⟨_, rfl⟩;rw [hb10];refine qd ?_;cases b10
  ·
   refine qo ae ?_;refine qg (qd ?_);refine ze rfl ?_;have := of_decide_eq_false hb7;have := of_decide_eq_false hb10;rw [show tcmp x y = 0 by omega]; exact ⟨rfl, rfl⟩
  ·
   refine qo ae ?_;refine qg (qd ?_);refine ze rfl ?_;have := of_decide_eq_true hb10;rw [show tcmp x y = 1 by omega]; exact ⟨rfl, rfl⟩
 ·
  refine qo ae ?_;refine qg (qd ?_);refine ze rfl ?_;have := of_decide_eq_true hb7;rw [show tcmp x y = -1 by omega]; exact ⟨rfl, rfl⟩
end Go.Brd
namespace Go.Brd
open Go Go.Brd Go.Proofs
set_option linter.unusedVariables false
theorem fi_102_0 : fieldIs Tryz.prog 102 0 0 = true := by kernel_rfl
def bcmp (a b : UInt8) : Int := if a < b then -1 else if b < a then 1 else 0
theorem bcmp_eq {a b : UInt8} (h : bcmp a b = 0) : a = b := by
 unfold bcmp at h;split at h
 · omega
 · split at h
   · omega
   · rename_i h1 h2; apply UInt8.toNat_inj.1; rw [UInt8.lt_iff_toNat_lt] at h1 h2; omega
theorem cmp_pre : ∀ {k : Nat} {x y : List UInt8}, x.take k = y.take k → k ≤ x.length → k ≤ y.length → Lib.compareBytes x y = Lib.compareBytes (x.drop k) (y.drop k)
 | 0, x, y, _, _, _ => rfl
 | k + 1, [], _, _, h, _ => by simp at h
 | k + 1, _ :: _, [], _, _, h => by simp at h
 | k + 1, a :: x, b :: y, h, h1, h2 => by
  simp only [List.take_succ_cons, List.cons.injEq] at h;obtain ⟨rfl, h⟩ := h;simp only [List.drop_succ_cons];rw [← cmp_pre h (by simpa using h1) (by simpa using h2)]
  conv => lhs; unfold Lib.compareBytes
  have : ¬ a < a := by rw [UInt8.lt_iff_toNat_lt]; omega
  rw [if_neg this, if_neg this]
theorem cmp_pre_at {k : Nat} {x y : List UInt8} {a b : UInt8} (h : x.take k = y.take k) (ha : x[k]? = some a) (hb : y[k]? = some b) (hne : bcmp a b ≠ 0) : Lib.compareBytes x y = bcmp a b := by
 obtain ⟨h1, e1⟩ := List.getElem?_eq_some_iff.1 ha;obtain ⟨h2, e2⟩ := List.getElem?_eq_some_iff.1 hb;rw [cmp_pre h af af, List.drop_eq_getElem_cons h1, List.drop_eq_getElem_cons h2, e1, e2];unfold Lib.compareBytes bcmp at *;split
 · rfl
 · rename_i h3
   rw [if_neg h3] at hne;split
   · rfl
   · rename_i h4; rw [if_neg h4] at hne; exact absurd rfl hne
theorem cmp_pre_long {k : Nat} {x y : List UInt8} (h : x.take k = y.take k) (hx : k < x.length) (hy : k = y.length) : Lib.compareBytes x y = 1 := by
 rw [cmp_pre h af af, List.drop_eq_getElem_cons hx, show y.drop k = [] from List.drop_eq_nil_of_le af]; rfl
theorem cmp_pre_short {x y : List UInt8} (h : x = y.take x.length) (hy : x.length < y.length) : Lib.compareBytes x y = -1 := by
 have := cmp_pre (k := x.length) (x := x) (y := y) (by rw [List.take_length]; exact h) (Nat.le_refl _) af;rw [this, List.drop_length, List.drop_eq_getElem_cons hy]; rfl
theorem isnan_byte {c : World} {h : GH} {L : Own} {a : UInt8}:
 Fun Tryz.prog c 139 #[u8V a] h L (fun u _ L' => u = .bool false ∧ L = L') := by
 refine kF (N := 6) (args := [.int .u8 ((a.toNat : Nat) : Int)]) Tryz.func139 ?_;refine qo ae ?_;refine qg (qd (qo ae ?_));refine qg (qg (qg (neqB (fun c5 => ?_) (fun c5 => ?_))))
 ·
  exact absurd rfl c5
 ·
  refine qg (qd ?_);refine ze rfl ?_;exact ⟨rfl, rfl⟩
theorem compare_byte {c : World} {h : GH} {L : Own} {a b : UInt8}:
 Fun Tryz.prog c 85 #[u8V a, u8V b] h L (fun u _ L' => u = .int .i64 (bcmp a b) ∧ L = L') := by
 refine kF (N := 20) (args := [.int .u8 ((a.toNat : Nat) : Int), .int .u8 ((b.toNat : Nat) : Int)]) Tryz.func85 ?_;refine qo ae ?_;refine qg (qd (qo ae ?_));refine qg (qg (qc (isnan_byte (a := a)) ?_));rintro v8 h2 L_ le1 ⟨rfl, rfl⟩;refine qg (qd (qo ae ?_));refine qg (qg (qc (isnan_byte (a := b)) ?_));rintro v10 h4 L_ le3 ⟨rfl, rfl⟩;refine qg (qd (qo ae ?_));refine qg (qd (qo ae ?_));refine qg (qd (qo ae ?_));refine qg (qg (qg (lssB (fun c16 => ?_) (fun c16 => ?_))))
 ·
  refine qd (qo ae ?_);refine qg (qd ?_);refine ze rfl ?_;have e : bcmp a b = -1 := by unfold bcmp; rw [if_pos (by rw [UInt8.lt_iff_toNat_lt]; omega)]
  rw [e]; exact ⟨rfl, rfl⟩
 ·
  refine qd (qo ae ?_);refine qg (qg (qg (gtrB (fun c19 => ?_) (fun c19 => ?_))))
  ·
   refine qd (qo ae ?_);refine qg (qd ?_);refine ze rfl ?_;have e : bcmp a b = 1 := by unfold bcmp; rw [if_neg (by rw [UInt8.lt_iff_toNat_lt]; omega), if_pos (by rw [UInt8.lt_iff_toNat_lt]; omega)]
   rw [e]; exact ⟨rfl, rfl⟩
  ·
   refine qd (qo ae ?_);refine qg (qd ?_);refine ze rfl ?_;have e : bcmp a b = 0 := by unfold bcmp; rw [if_neg (by rw [UInt8.lt_iff_toNat_lt]; omega), if_neg (by rw [UInt8.lt_iff_toNat_lt]; omega)]
   rw [e]; exact ⟨rfl, rfl⟩
theorem compare_bytes {c : World} {h : GH} {L : Own} {v u : Value} {x y : List UInt8} (hv : RBytes h v x) (hu : RBytes h u y):
 Fun Tryz.prog c 51 #[v, u] h L (fun u _ L' => u = .int .i64 (Lib.compareBytes x y) ∧ L = L') := by
 have hvs := hv.small; rw [List.length_map] at hvs;refine kF (N := 36) (args := [v, u]) Tryz.func51 ?_;refine qo ae ?_;refine qg (qd (qo ae ?_));refine qg (qg (qm sl_109 hv ?_));refine qg (qd ?_);refine qL (fun s0 nn s' h' L' => ∃ (k : Nat), s' = [(11, .int .i64 k)] ++ qR s0 [0, 1, 9, 10] ∧ nn = x.length - k ∧ L = L' ∧ k ≤ x.length ∧ k ≤ y.length ∧ x.take k = y.take k) ⟨0, rfl, rfl, rfl, ?_⟩ zg zl zn ?_
 · exact ⟨Nat.zero_le _, Nat.zero_le _, rfl⟩
 rintro nn s1 h1 L_ le2 ⟨k, rfl, rfl, rfl, hk, hky, he⟩;replace hv := hv.mono le2; replace hu := hu.mono le2;refine qo ae ?_;refine qg (lssB (fun c12 => ?_) (fun c12 => ?_))
 ·
  have hkl : k < x.length := by omega
  obtain ⟨a, ha⟩ := qE hkl;refine qd (qo ae ?_);refine qg (qg (qi (k := k) sl_109 hv rfl ha ?_));intro p14 r14 hl14 hp14;refine qg (ql (v := u8V a) sc_5 hp14 ?_);refine qg (qg (qd (qo ae ?_)));refine qg (qg (qg (qm sl_109 hu ?_)));refine qg (geqB (fun c19 => ?_) (fun c19 => ?_))
  ·
   refine qd (qo ae ?_);refine qg (qd ?_);refine ze rfl ?_;rw [cmp_pre_long he hkl af]; exact ⟨rfl, rfl⟩
  ·
   have hkl2 : k < y.length := by omega
   obtain ⟨b, hb⟩ := qE hkl2;refine qd (qo ae ?_);refine qg (qg (qg (qi (k := k) sl_109 hu rfl hb ?_)));intro p22 r22 hl22 hp22;refine qg (ql (v := u8V b) sc_5 hp22 ?_);refine qg (qd (qo ae ?_));refine qg (qg (qg (qc (compare_byte (a := a) (b := b)) ?_)));rintro v26 h4 L_ le3 ⟨rfl, rfl⟩;refine qg (qd (qo ae ?_));refine qg (qg (neqB (fun c28 => ?_) (fun c28 => ?_)))
   ·
    refine qd (qo ae ?_);refine qg (qg (qd ?_));refine ze rfl ?_;rw [cmp_pre_at he ha hb c28]; exact ⟨rfl, rfl⟩
   ·
    refine qd (qo ae ?_);refine qg (qA ak ?_);refine qg (qd ?_);have hab := bcmp_eq c28;subst hab;exact back (m := _) ⟨k + 1, rfl, rfl, rfl, by omega, by omega, by rw [List.take_add_one, List.take_add_one, he, ha, hb]⟩ af zg zl zn
 ·
  refine qd (qo ae ?_);refine qg (qg (qm sl_109 hv ?_));refine qg (qg (qm sl_109 hu ?_));refine qg (lssB (fun c35 => ?_) (fun c35 => ?_))
  ·
   refine qd (qo ae ?_);refine qg (qd ?_);refine ze rfl ?_;have hke : k = x.length := by omega
   subst hke;rw [List.take_length] at he;rw [cmp_pre_short he af]; exact ⟨rfl, rfl⟩
  ·
   refine qd (qo ae ?_);refine qg (qd ?_);refine ze rfl ?_;have hke : k = x.length := by omega
   subst hke;have hke2 : x.length = y.length := by omega
   rw [List.take_length, hke2, List.take_length] at he;subst he;rw [cmp_id_iff.2 rfl]; exact ⟨rfl, rfl⟩
structure Reg where
 key : ByteArray
 val : Val
 stamp : Nat
 id : ID
 deriving DecidableEq
def regC (r : Reg) : List Value := .string r.key :: (valC r.val ++ (.int .u64 (r.stamp : Int) :: idC r.id))
theorem regC_length (r : Reg) : (regC r).length = r.id.length + 6 := by simp [regC, valC, idC_length]
def RegOk (r : Reg) : Prop := r.id.length = 32 ∧ r.key.size < 1000
theorem idC_all (x : ID) : (idC x).all oneCell = true := idC_one x
theorem tagC_all (t : Tag) : (tagC t).all oneCell = true := by unfold tagC; rw [List.all_cons, idC_all]; rfl
theorem regC_all (r : Reg) : (regC r).all oneCell = true := by unfold regC; simp only [List.all_cons, List.all_append, idC_all]; rfl
theorem regsw3 {c : World} {h : GH} {L : Own} {x y : Reg} (hx : RegOk x) (hy : RegOk y):
 Fun Tryz.prog c 50 #[.agg (regC x).toArray, .agg (regC y).toArray] h L (fun u _ L' => u = .int .i64 (kcmp x.key y.key) ∧ L = L') := by
 have hxs := hx.2;have hys := hy.2;refine kF (N := 12) (args := [.agg (regC x).toArray, .agg (regC y).toArray]) Tryz.func50 ?_;refine qo ae ?_;refine qg (box_at rfl ?_);intro p2 h2 le1 hp2;refine qg (box_at rfl ?_);intro p3 h4 le3 hp3;replace hp2 := hp2.mono le3;refine qg (qd (qo ae ?_));refine qg (qf fi_102_0 aa ?_);intro p5 hp5;refine qg (ql (v := .string x.key) sc_9 hp5 ?_);refine qg (strBytes un_9 un_109 un_5 af ?_);intro v7 h6 le5 hv7;replace hp3 := hp3.mono le5;refine qg (qf fi_102_0 aa ?_);intro p8 hp8;refine qg (ql (v := .string y.key) sc_9 hp8 ?_);refine qg (strBytes un_9 un_109 un_5 af ?_);intro v10 h8 le7 hv10;replace hv7 := hv7.mono le7;refine qg (qc (compare_bytes hv7 hv10) ?_);rintro v11 h10 L_ le9 ⟨rfl, rfl⟩;refine qg (qd ?_);refine ze rfl ?_;exact ⟨rfl, rfl⟩
theorem sort_ids {c : World} {h : GH} {v : Value} {xs : List ID} {N M : Own} (hx : ∀ x ∈ xs, x.length = 32) (hv : OS 74 32 v (xs.map idC) N) (hsm : xs.length ≤ 1000) :
 Fun Tryz.prog c 68 #[v, .func (.func 69) #[] #[]] h (N ++ M) (fun _ _ L' => ∃ N', L' = N' ++ M ∧ ∃ ys : List ID, ys.Perm xs ∧ ys.Pairwise (fun a b => ¬ Lib.compareBytes b a < 0) ∧ OS 74 32 v (ys.map idC) N') :=
 sortFunc_on (ok := fun x : ID => x.length = 32) Tryz.sortID ae (k := 32) (by kernel_rfl) ah (List.replicate 32 0) am (fun x hx => by rw [idC_length]; exact hx) (fun x _ => idC_all x) (cf := Lib.compareBytes) (fun x y => cmp_flip x y) (fun x y z => cmp_trans) (fun x y h z => by rw [cmp_id_iff.1 h]) ae
  (fun c h x y hx hy => digest_cmp (by rw [idC_length]; exact hx) (by rw [idC_length]; exact hy)) hx hv hsm
theorem sort_tags {g : Nat} (hg : plain Tryz.prog g = true) (hf : ∀ (c : World) (h : GH) (x y : Tag), x.2.length = 32 → y.2.length = 32 → Fun Tryz.prog c g #[.agg (tagC x).toArray, .agg (tagC y).toArray] h [] (fun u _ L' => u = .int .i64 (tcmp x y) ∧ ([] : Own) = L'))
 {c : World} {h : GH} {v : Value} {xs : List Tag} {N M : Own} (hx : ∀ x ∈ xs, x.2.length = 32) (hv : OS 97 33 v (xs.map tagC) N) (hsm : xs.length ≤ 1000) :
 Fun Tryz.prog c 42 #[v, .func (.func g) #[] #[]] h (N ++ M) (fun _ _ L' => ∃ N', L' = N' ++ M ∧ ∃ ys : List Tag, ys.Perm xs ∧ ys.Pairwise (fun a b => ¬ tcmp b a < 0) ∧ OS 97 33 v (ys.map tagC) N') :=
 sortFunc_on (ok := fun x : Tag => x.2.length = 32) Tryz.sortTag ae (k := 33) (by kernel_rfl) ah (⟨#[]⟩, List.replicate 32 0) am (fun x hx => by rw [tagC_length, hx]) (fun x _ => tagC_all x) (cf := tcmp) (fun x y => tcmp_flip x y) (fun x y z => tcmp_trans) (fun x y h z => by rw [tcmp_zero.1 h]) hg hf hx hv hsm
theorem sort_tags_orset {c : World} {h : GH} {v : Value} {xs : List Tag} {N M : Own} (hx : ∀ x ∈ xs, x.2.length = 32) (hv : OS 97 33 v (xs.map tagC) N) (hsm : xs.length ≤ 1000) :
 Fun Tryz.prog c 42 #[v, .func (.func 76) #[] #[]] h (N ++ M) (fun _ _ L' => ∃ N', L' = N' ++ M ∧ ∃ ys : List Tag, ys.Perm xs ∧ ys.Pairwise (fun a b => ¬ tcmp b a < 0) ∧ OS 97 33 v (ys.map tagC) N') :=
 sort_tags ae (fun c h x y hx hy => orset_cmp (by rw [idC_length]; exact hx) (by rw [idC_length]; exact hy)) hx hv hsm
theorem sort_tags_top {c : World} {h : GH} {v : Value} {xs : List Tag} {N M : Own} (hx : ∀ x ∈ xs, x.2.length = 32) (hv : OS 97 33 v (xs.map tagC) N) (hsm : xs.length ≤ 1000) :
 Fun Tryz.prog c 42 #[v, .func (.func 43) #[] #[]] h (N ++ M) (fun _ _ L' => ∃ N', L' = N' ++ M ∧ ∃ ys : List Tag, ys.Perm xs ∧ ys.Pairwise (fun a b => ¬ tcmp b a < 0) ∧ OS 97 33 v (ys.map tagC) N') :=
 sort_tags ae (fun c h x y hx hy => top_lessw (by rw [idC_length]; exact hx) (by rw [idC_length]; exact hy)) hx hv hsm
theorem sort_regs {c : World} {h : GH} {v : Value} {xs : List Reg} {N M : Own} (hx : ∀ x ∈ xs, RegOk x) (hv : OS 102 38 v (xs.map regC) N) (hsm : xs.length ≤ 1000) :
 Fun Tryz.prog c 49 #[v, .func (.func 50) #[] #[]] h (N ++ M) (fun _ _ L' => ∃ N', L' = N' ++ M ∧ ∃ ys : List Reg, ys.Perm xs ∧ ys.Pairwise (fun a b => ¬ kcmp b.key a.key < 0) ∧ OS 102 38 v (ys.map regC) N') :=
 sortFunc_on (ok := RegOk) Tryz.sortReg ae (k := 38) (by kernel_rfl) ah ⟨⟨#[]⟩, ⟨0, 0, 0, ⟨#[]⟩⟩, 0, List.replicate 32 0⟩ ⟨by simp, by decide⟩ (fun x hx => by rw [regC_length, hx.1]) (fun x _ => regC_all x) (cf := fun x y => kcmp x.key y.key) (fun x y => kcmp_flip x.key y.key) (fun x y z => kcmp_trans) (fun x y h z => by rw [kcmp_zero.1 h]) ae
  (fun c h x y hx hy => regsw3 hx hy) hx hv hsm
end Go.Brd
namespace Go.Brd
open Go Go.Brd Go.Proofs
set_option linter.unusedVariables false
theorem pl_f78 : plain Tryz.prog 78 = true := by kernel_rfl
theorem Bits.unset {ids : List ID} {sb : List Bool} {M : ID → Prop} (h : Bits ids sb M) (hn : ids.Nodup) {k : Nat} {x : ID} (hx : ids[k]? = some x) : Bits ids (sb.set k false) (fun z => M z ∧ z ≠ x) := by
 have hk := (List.getElem?_eq_some_iff.1 hx).1;refine ⟨by rw [List.length_set]; exact h.1, fun j y hy => ?_⟩;rw [List.getElem?_set];by_cases e : k = j
 · subst e
   rw [hx] at hy; cases hy;rw [if_pos rfl, if_pos (by rw [h.1]; exact hk)];exact ⟨fun h => absurd h am, fun h => absurd rfl h.2⟩
 · rw [if_neg e, h.2 j y hy]
   refine ⟨fun hm => ⟨hm, fun e2 => e ?_⟩, fun hm => hm.1⟩;subst e2;exact nodup_inj hn hx hy
theorem mk_len {α : Type} (xs : List α) (sb : List Bool) : (mk xs sb).length ≤ xs.length := (mk_sub xs sb).length_le
structure AncOf (l : List Op) (o : Op) (an : List ID) : Prop where
 sub : an.Sublist (l.map idOf)
 mem : ∀ y ∈ l.map idOf, y ∈ an ↔ ∃ q ∈ o.preds, Dn l q y
theorem ancOf_mk {l : List Op} {o : Op} {sb : List Bool} (hB : Bits (l.map idOf) sb (fun z => ∃ q ∈ o.preds, Dn l q z)) : AncOf l o (mk (l.map idOf) sb) := ⟨mk_sub _ _, fun y hy => by rw [mk_bits hB]; exact ⟨fun h => h.2, fun h => ⟨hy, h⟩⟩⟩
structure HeadsOf (l : List Op) (hs : List ID) : Prop where
 sub : hs.Sublist (l.map idOf)
 mem : ∀ y ∈ l.map idOf, y ∈ hs ↔ ∀ o ∈ l, y ∉ o.preds
theorem headsOf_mk {l : List Op} {sb : List Bool} (hB : Bits (l.map idOf) sb (fun z => ∀ o ∈ l, z ∉ o.preds)) : HeadsOf l (mk (l.map idOf) sb) := ⟨mk_sub _ _, fun y hy => by rw [mk_bits hB]; exact ⟨fun h => h.2, fun h => ⟨hy, h⟩⟩⟩
theorem all_snoc {l : List Op} {k : Nat} {o : Op} (ho : l[k]? = some o) {ids : List ID} {sb : List Bool} (hB : Bits ids sb (fun z => (∀ p ∈ l.take k, z ∉ p.preds) ∧ z ∉ o.preds)) : Bits ids sb (fun z => ∀ p ∈ l.take (k + 1), z ∉ p.preds) :=
 hB.congr fun z _ => by
  rw [takeS ho];constructor
  · rintro ⟨h1, h2⟩ p hp
    rcases List.mem_append.1 hp with hp | hp
    · exact h1 p hp
    · have : p = o := by simpa using hp
      rw [this]; exact h2
  · intro h; exact ⟨fun p hp => h p (List.mem_append_left _ hp), h o am⟩
theorem none_snoc {l : List Op} {ps : List ID} {j k : Nat} {q : ID} (hq : ps[j]? = some q) {ids : List ID} {sb : List Bool} (hB : Bits ids sb (fun z => ((∀ p ∈ l.take k, z ∉ p.preds) ∧ z ∉ ps.take j) ∧ z ≠ q)) : Bits ids sb (fun z => (∀ p ∈ l.take k, z ∉ p.preds) ∧ z ∉ ps.take (j + 1)) :=
 hB.congr fun z _ => by
  rw [takeS hq, List.mem_append, List.mem_singleton];constructor
  · rintro ⟨⟨h1, h2⟩, h3⟩; exact ⟨h1, fun h => h.elim h2 h3⟩
  · rintro ⟨h1, h2⟩; exact ⟨⟨h1, fun h => h2 (.inl h)⟩, fun h => h2 (.inr h)⟩
theorem bits_set_true {ids : List ID} {sb : List Bool} {k : Nat} (hl : sb.length = ids.length) (h : ∀ j, j < k → sb[j]? = some true) : k < ids.length → ∀ j, j < k + 1 → (sb.set k true)[j]? = some true := fun hk j hj => by
 rw [List.getElem?_set];by_cases e : k = j
 · rw [if_pos e, if_pos af]
 · rw [if_neg e]; exact h j af
theorem anc_marked {c : World} {h : GH} {L : Own} {iv ov sv : Value} {ids : List ID} {sb : List Bool} (hi : RIds h iv ids) (hov : oneCell ov = true) (hs : Sl h sv 1 (sb.map bC)) (hl : sb.length = ids.length) (h60 : ids.length ≤ 1000):
 Fun Tryz.prog c 78 #[gV iv ov, sv] h L (fun u _ L' => ∃ N, L' = N ++ L ∧ OS 74 32 u ((mk ids sb).map idC) N) := by
 refine kF (N := 26) (args := [gV iv ov, sv]) Tryz.func78 ?_;refine qo ae ?_;refine qg (box_at rfl ?_);intro p2 h2 le1 hp2;replace hi := hi.mono le1; replace hs := hs.mono le1;refine qg (qd (qo ae ?_));refine qg (qd (qo ae ?_));refine qg (qg (qm sl_77 hs ?_));refine qg (qd ?_);refine qL (fun s0 nn s' h' L' => ∃ (k : Nat) (v : Value) (N : Own), s' = [(5, v), (9, .int .i64 k)] ++ qR s0 [1, 2, 8] ∧ nn = sb.length - k ∧ N ++ L = L' ∧ k ≤ sb.length ∧ OS 74 32 v ((mk (ids.take k) sb).map idC) N) ⟨0, _, [], rfl, rfl, rfl, ?_⟩ zg zl zn ?_
 · exact ⟨Nat.zero_le _, by rw [List.take_zero, mk_nil]; exact OS.nil _ _⟩
 rintro nn s1 h3 L_ le4 ⟨k, v, N, rfl, rfl, rfl, hk, hv⟩;replace hi := hi.mono le4; replace hs := hs.mono le4; replace hp2 := hp2.mono le4;refine qo ae ?_;refine qg (lssB (fun c10 => ?_) (fun c10 => ?_))
 ·
  have hkl : k < sb.length := by omega
  obtain ⟨b, hb⟩ := qE hkl;obtain ⟨x, hx⟩ := qE (l := ids) (k := k) af;have hml := mk_len (ids.take k) sb;rw [List.length_take] at hml;refine qd (qo ae ?_);refine qg (qg (qd (qo ae ?_)));refine qg (qg (qg (qi (k := k) sl_77 hs rfl hb ?_)));intro p14 r14 hl14 hp14;refine qg (ql (v := .bool b) sc_4 hp14 ?_);refine qd ?_;cases hb15 : b
  ·
   refine qo ae ?_;refine qg (qA ak ?_);refine qg (qd ?_);exact back (m := _) ⟨k + 1, _, _, rfl, rfl, rfl, by omega, by rw [mk_snoc hx hb, hb15]; simpa using hv⟩ af zg zl zn
  ·
   refine qo ae ?_;refine qg (qg (qf fi_25_0 aa ?_));intro p17 hp17;refine qg (ql sc_22 aa ?_);refine qg (qg (qi (k := k) sl_22 aa rfl hx ?_));intro p20 r20 hl20 hp20;refine qg (qP ag_74 aa aa ?_);refine qg (qB sl_22 z_74 rfl ag ah (idC_one _) ?_);intro v22 h6 le5 hv22;refine qg (qp sl_22 sl_22 z_74 aa aa kR (by rw [List.length_map]; simp; omega) ?_);intro v23 N23 hv23;refine ⟨_, kR.symm, ?_⟩;refine qg (qd (qo ae ?_));refine qg (qA ak ?_);refine qg (qd ?_);exact back (m := _) ⟨k + 1, _, _, rfl, rfl, rfl, by omega, by rw [mk_snoc hx hb, hb15, List.map_append]; exact hv23⟩ af zg zl zn
 ·
  refine qd (qo ae ?_);refine qg (qg (qd ?_));refine DoRet.r1 (.tmp rfl) (qh (List.Sublist.append_left kS _)) zl ?_;have hke : k = ids.length := by omega
  rw [hke, List.take_length] at hv;exact ⟨N, rfl, hv⟩
theorem anc_look {c : World} {h : GH} {L : Own} {iv ov : Value} {xs : List (Op × Value)} (hg : GK h) (hi : RIds h iv ((fst1 xs).map idOf)) (ho : ROps h ov xs) (hG : GOk (fst1 xs)) {x : ID} (hx : (idC x).length = 32) (hxi : x ∈ ((fst1 xs).map idOf)):
 Fun Tryz.prog c 114 #[gV iv ov, idV x] h L (fun u _ L' => (∃ i : Nat, u = .tuple #[.int .i64 (i : Int), .int .i64 0] ∧ ((fst1 xs).map idOf)[i]? = some x) ∧ L = L') := by
 refine kF (N := 24) (args := [gV iv ov, idV x]) Tryz.func114 ?_;refine qo ae ?_;refine qg (box_at rfl ?_);intro p2 h2 le1 hp2;replace hg := hg.mono le1; replace hi := hi.mono le1; replace ho := ho.mono le1;refine qg (box_at rfl ?_);intro p3 h4 le3 hp3;replace hg := hg.mono le3; replace hi := hi.mono le3; replace ho := ho.mono le3; replace hp2 := hp2.mono le3;refine qg (qg (qd (qo ae ?_)));refine qg (qX ag_25 aa ag ?_);refine qg (qc (dag_check hg hi ho hG) ?_);rintro v10 h6 L_ le5 ⟨rfl, rfl⟩;replace hi := hi.mono le5; replace hp2 := hp2.mono le5; replace hp3 := hp3.mono le5;refine qg (qd (qo ae ?_));refine qg (qg (neqB (fun c12 => ?_) (fun c12 => ?_)))
 ·
  omega
 ·
  refine qd (qo ae ?_);refine qg (qf fi_25_0 aa ?_);intro p15 hp15;refine qg (ql sc_22 aa ?_);refine qg (qX ag_74 aa ag ?_);refine qg (qc (bsearch_id hi hG.ris hx) ?_);rintro v18 h8 L_ le7 ⟨⟨i18, rfl, hlb⟩, rfl⟩;rw [decide_eq_true hxi];refine qg (qg (qg (qg (qg (qd (qo ae ?_))))));refine qg (qg (not_tt ?_));refine qd (qo ae ?_);refine qg (qg (qg (qd ?_)));refine DoRet.r2 (.tmp rfl) (.tmp rfl) zg zl ?_;exact ⟨⟨i18, rfl, (hlb.mem hG.ris).1 hxi⟩, rfl⟩
theorem anc_ancestors {c : World} {h : GH} {L : Own} {iv ov : Value} {xs : List (Op × Value)} (hg : GK h) (hi : RIds h iv ((fst1 xs).map idOf)) (ho : ROps h ov xs) (hG : GOk (fst1 xs)) {o : Op} (hoo : o ∈ fst1 xs):
 Fun Tryz.prog c 75 #[gV iv ov, idV (idOf o)] h L (fun u _ L' => ∃ N, L' = N ++ L ∧ ∃ z an, u = .tuple #[z, .int .i64 0] ∧ OS 74 32 z (an.map idC) N ∧ AncOf (fst1 xs) o an) := by
 have hfl := fst1_len xs;have h60 : xs.length ≤ 60 := by have := hG.small; omega
 refine kF (N := 27) (args := [gV iv ov, idV (idOf o)]) Tryz.func75 ?_;refine qo ae ?_;refine qg (box_at rfl ?_);intro p2 h2 le1 hp2;replace hg := hg.mono le1; replace hi := hi.mono le1; replace ho := ho.mono le1;refine qg (box_at rfl ?_);intro p3 h4 le3 hp3;replace hg := hg.mono le3; replace hi := hi.mono le3; replace ho := ho.mono le3; replace hp2 := hp2.mono le3;refine qg (qg (qd (qo ae ?_)));refine qg (qX ag_25 aa ag ?_);refine qg (qX ag_74 aa ag ?_);refine qg (qc (anc_look hg hi ho hG (x := idOf o) (by rw [idC_length]; exact idOf_len _) (List.mem_map.2 ⟨o, hoo, rfl⟩)) ?_);rintro v11 h6 L_ le5 ⟨⟨i11, rfl, hxi⟩, rfl⟩;replace hi := hi.mono le5; replace ho := ho.mono le5; replace hp2 := hp2.mono le5;obtain ⟨y, hy, hyx⟩ := idsx_get hxi;have hye : y.1 = o := hG.inj (fst1_mem hy) hoo hyx;subst hye;have hry := ho.each y (List.mem_of_getElem? hy);have hrp : RIds _ y.2 y.1.preds := hry.preds;refine qg (qg (qg (qg (qg (qd (qo ae ?_))))));refine qg (qg (neqB (fun c15 => ?_) (fun c15 => ?_)))
 ·
  omega
 ·
  refine qd ?_;refine qD mixed [] [0, 1, 2, 3, 4, 5, 6, 7, 8, 9, 10, 11] [] ae sub_nil ?_;refine qr rfl rfl rfl (qX ag_25 aa ag ?_);refine qr rfl rfl rfl (qX ag_25 aa ag ?_);refine qr rfl rfl rfl (qf fi_25_1 aa ?_);intro p19 hp19;refine qr rfl rfl rfl (ql sc_23 aa ?_);refine qr rfl rfl rfl (qr rfl rfl rfl (qi (k := i11) sl_23 ho.sl rfl hy ?_));intro p22 r22 hl22 hp22;refine qr rfl rfl rfl (qf fi_61_1 aa ?_);intro p23 hp23;refine qr rfl rfl rfl (ql (v := y.2) sc_22 hp23 ?_);refine qj rfl rfl rfl ?_;refine qc (anc_reach hi ho hG hrp (hG.closed _ hoo)) ?_;rintro v25 h8 L_ le7 ⟨N25, rfl, sb, hvs, hB⟩;replace hi := hi.mono le7; replace ho := ho.mono le7;refine ⟨am, ?_⟩;refine qj rfl rfl rfl ?_;refine DoCall.freeze pl_f78 hvs (by rw [List.length_map, hB.1, List.length_map, hfl]; omega) kR ?_;intro h9 le10 hvs;replace hi := hi.mono le10; replace ho := ho.mono le10;refine qc (anc_marked hi (Sl.one ho.sl) hvs hB.1 (by rw [List.length_map, hfl]; omega)) ?_;rintro v26 h12 L_ le11 ⟨N26, rfl, hv26⟩;refine ⟨am, ?_⟩;refine qr rfl rfl rfl (qr rfl rfl rfl (qe zf ?_));refine DoRet.r2 (.tmp rfl) (.tmp rfl) (qh (List.Sublist.append_left kS _)) zl ?_;exact ⟨N26, rfl, v26, _, rfl, hv26, ancOf_mk hB⟩
theorem anc_heads {c : World} {h : GH} {L : Own} {iv ov : Value} {xs : List (Op × Value)} (hg : GK h) (hi : RIds h iv ((fst1 xs).map idOf)) (ho : ROps h ov xs) (hG : GOk (fst1 xs)):
 Fun Tryz.prog c 38 #[gV iv ov] h L (fun u _ L' => ∃ N, L' = N ++ L ∧ ∃ z hs, u = .tuple #[z, .int .i64 0] ∧ OS 74 32 z (hs.map idC) N ∧ HeadsOf (fst1 xs) hs) := by
 have h32 := hi.len32;have hfl := fst1_len xs;have h60 : xs.length ≤ 60 := by have := hG.small; omega
 refine kF (N := 56) (args := [gV iv ov]) Tryz.func38 ?_;refine qo ae ?_;refine qg (box_at rfl ?_);intro p1 h2 le1 hp1;replace hg := hg.mono le1; replace hi := hi.mono le1; replace ho := ho.mono le1;refine qg (qg (qd (qo ae ?_)));refine qg (qX ag_25 aa ag ?_);refine qg (qc (dag_check hg hi ho hG) ?_);rintro v13 h4 L_ le3 ⟨rfl, rfl⟩;replace hi := hi.mono le3; replace ho := ho.mono le3; replace hp1 := hp1.mono le3;refine qg (qd (qo ae ?_));refine qg (qg (neqB (fun c15 => ?_) (fun c15 => ?_)))
 ·
  omega
 ·
  refine qd (qo ae ?_);refine qg (qX ag_25 aa ag ?_);refine qg (qc (anc_places hi (Sl.one ho.sl) hG.nodup) ?_);rintro v18 h6 L_ le5 ⟨hpl, rfl⟩;replace hi := hi.mono le5; replace ho := ho.mono le5; replace hp1 := hp1.mono le5;refine qg (qd (qo ae ?_));refine qg (qf fi_25_0 aa ?_);intro p19 hp19;refine qg (ql sc_22 aa ?_);refine qg (qm sl_22 hi ?_);refine qg (make_own (k := ((fst1 xs).map idOf).length) un_77 (zero1_of zv_4 z_4 si_4 rfl) rfl rfl rfl (by rw [List.length_map, hfl]; omega) ?_);intro v22 N22 hv22x;have hv22 : OS 4 1 v22 ((List.replicate ((fst1 xs).map idOf).length false).map bC) N22 := by rw [List.map_replicate]; exact hv22x
  refine qg (qd (qo ae ?_));refine qg (qg (len_os sl_77 hv22 ?_));refine qg (qd ?_);refine qL (fun s0 nn s' h' L' => ∃ (k : Nat) (N : Own) (sb : List Bool), s' = [(25, .int .i64 k)] ++ qR s0 [1, 5, 6, 24] ∧ nn = xs.length - k ∧ N ++ L = L' ∧ k ≤ xs.length ∧ OS 4 1 v22 (sb.map bC) N ∧ sb.length = xs.length ∧ ∀ j, j < k → sb[j]? = some true) ⟨0, _, List.replicate ((fst1 xs).map idOf).length false, rfl, rfl, rfl, ?_⟩ zg zl zn ?_
  · exact ⟨Nat.zero_le _, hv22, by rw [List.length_replicate, List.length_map, hfl], fun j hj => absurd hj (Nat.not_lt_zero j)⟩
  rintro nn s1 h7 L_ le8 ⟨k, N, sb, rfl, rfl, rfl, hk, hvs, hsl, hall⟩;replace hi := hi.mono le8; replace ho := ho.mono le8; replace hp1 := hp1.mono le8; replace hpl := hpl.mono le8;refine qo ae ?_;refine qg (lssB (fun c26 => ?_) (fun c26 => ?_))
  ·
   rw [List.length_map, List.length_replicate, List.length_map, hfl] at c26;have hkl : k < xs.length := by omega
   obtain ⟨b, hb⟩ := qE (l := sb) (k := k) af;refine qd (qo ae ?_);refine qg (qg (qd (qo ae ?_)));refine qg (qg (qg (index_os (k := k) sl_77 aa rfl (by rw [List.length_map, hsl]; exact hkl) ?_)));intro p30 hp30;refine qg (store_os si_4 ac rfl rfl aa hvs (map_get hb) kR ab (show over (bC b) 0 [.bool true] = [.bool true] from rfl) ?_);clear hvs; intro M9 hvs; refine ⟨_, kR.symm, ?_⟩;refine qd (qo ae ?_);refine qg (qA ak ?_);refine qg (qd ?_);exact back (m := _) ⟨k + 1, _, sb.set k true, rfl, rfl, rfl, by omega, by rw [List.map_set]; assumption, by rw [List.length_set]; exact hsl, bits_set_true (ids := (fst1 xs).map idOf) (by rw [hsl, List.length_map, hfl]) hall (by rw [List.length_map, hfl]; exact hkl)⟩ af zg zl zn
  ·
   rw [List.length_map, List.length_replicate, List.length_map, hfl] at c26;have hke : k = xs.length := by omega
   subst hke
   have hB0 : Bits ((fst1 xs).map idOf) sb (fun z => ∀ p ∈ (fst1 xs).take 0, z ∉ p.preds) := ⟨by rw [hsl, List.length_map, hfl], fun j x hx => by
    have hj : j < xs.length := by have := (List.getElem?_eq_some_iff.1 hx).1; rw [List.length_map, hfl] at this; exact this
    exact ⟨fun _ p hp => by simp at hp, fun _ => hall j hj⟩⟩
   refine qd (qo ae ?_);refine qg (qf fi_25_1 aa ?_);intro p32 hp32;refine qg (ql sc_23 aa ?_);refine qg (qm sl_23 ho.sl ?_);refine qg (qd ?_);refine qL (fun s0 nn s' h' L' => ∃ (k : Nat) (N1 : Own) (sb1 : List Bool), s' = [(35, .int .i64 k)] ++ qR s0 [1, 5, 6, 33, 34] ∧ nn = xs.length - k ∧ N1 ++ L = L' ∧ k ≤ xs.length ∧ OS 4 1 v22 (sb1.map bC) N1 ∧ Bits ((fst1 xs).map idOf) sb1 (fun z => ∀ p ∈ (fst1 xs).take k, z ∉ p.preds)) ⟨0, _, sb, rfl, rfl, rfl, ?_⟩ zg zl zn ?_
   · exact ⟨Nat.zero_le _, hvs, hB0⟩
   rintro nn s1 h10 L_ le11 ⟨k, N1, sb1, rfl, rfl, rfl, hk1, hvs1, hB1⟩;replace hi := hi.mono le11; replace ho := ho.mono le11; replace hp1 := hp1.mono le11; replace hpl := hpl.mono le11;refine qo ae ?_;refine qg (lssB (fun c36 => ?_) (fun c36 => ?_))
   ·
    have hkl : k < xs.length := by omega
    obtain ⟨y, hy⟩ := qE hkl;have hry := ho.each y (List.mem_of_getElem? hy);have hyo := fst1_mem hy;have hrp : RIds _ y.2 y.1.preds := hry.preds;have hpsm := hrp.small;rw [List.length_map] at hpsm;refine qd (qo ae ?_);refine qg (qi (k := k) sl_23 ho.sl rfl hy ?_);intro p37 r37 hl37 hp37;refine qg (qP ag_61 hp37 rfl ?_);refine qg (qa zc_61 ?_);intro b9;refine qg (kB (l' := opC y) si_61 ac ai (opC_one2 (Sl.one hry.preds)) kR ab rfl kR.symm ?_);refine qd (qo ae ?_);refine qg (qw fi_61_1 ?_);refine qg (qO (v := y.2) sc_22 kH rfl ?_);refine qg (qm sl_22 hrp ?_);refine qg (qd ?_);refine qL (fun s0 nn s' h' L' => ∃ (j : Nat) (N2 : Own) (sb2 : List Bool), s' = [(42, .int .i64 j)] ++ qR s0 [1, 5, 6, 33, 34, 35, 40, 41] ∧ nn = y.1.preds.length - j ∧ N2 ++ L = L' ∧ j ≤ y.1.preds.length ∧ OS 4 1 v22 (sb2.map bC) N2 ∧ Bits ((fst1 xs).map idOf) sb2 (fun z => (∀ p ∈ (fst1 xs).take k, z ∉ p.preds) ∧ z ∉ y.1.preds.take j)) ⟨0, _, sb1, rfl, rfl, rfl, ?_⟩ (qh (zu kS)) zl zn ?_
    · exact ⟨Nat.zero_le _, hvs1, hB1.congr fun z _ => by simp⟩
    rintro nn s1 h12 L_ le13 ⟨j, N2, sb2, rfl, rfl, rfl, hj, hvs2, hB2⟩;replace hpl := hpl.mono le13; replace hrp := hrp.mono le13;refine qo ae ?_;refine qg (lssB (fun c43 => ?_) (fun c43 => ?_))
    ·
     have hjl : j < y.1.preds.length := by omega
     obtain ⟨q, hq⟩ := qE hjl;have hqm := List.mem_of_getElem? hq;have hqi := hG.closed _ hyo q hqm;have hq32 := h32 q hqi;have hcl : (idC q).length = 32 := by rw [idC_length, hq32]
     refine qd (qo ae ?_);refine qg (qi (k := j) sl_22 hrp rfl hq ?_);intro p44 r44 hl44 hp44;refine qg (qP ag_74 aa aa ?_);refine qg (qa zc_74 ?_);intro b11;refine qg (kB (l' := idC q) si_74 ac hcl (idC_one _) kR ab (over_all (by rw [hcl, List.length_replicate])) kR.symm ?_);refine qd (qo ae ?_);refine qg (qg (qg (qx (r := idC q) ag_74 kH (by rw [hcl]; decide) (by rw [List.drop_zero, List.take_of_length_le (by rw [hcl]; decide)]) ?_)));refine qg ?_;obtain ⟨bm, rfl, hbm⟩ := id hpl;refine lookup_mapA (k := q) un_126 kt_id hq32 (plc_len h32) zvi_3 (.inl hbm) (fun iz z hget => ?_) (fun hget => (plc_none hget hqi).elim);obtain ⟨rfl, hxi⟩ := plc_get (i := 0) hget;have hizl : z < (sb2.map bC).length := by rw [List.length_map, hB2.1]; exact (List.getElem?_eq_some_iff.1 hxi).1
     obtain ⟨bz, hbz⟩ := qE (by rw [List.length_map] at hizl; exact hizl);refine qg (index_os (k := z) sl_77 aa rfl hizl ?_);intro p50 hp50;refine qg (store_os si_4 ac rfl rfl aa hvs2 (map_get hbz) ((zc kR).trans zm.symm) ab (show over (bC bz) 0 [.bool false] = [.bool false] from rfl) ?_);clear hvs2; intro M14 hvs2; refine ⟨_, ((zc kR).trans zm.symm).symm, ?_⟩;refine qd (qo ae ?_);refine qg (qA ak ?_);refine qg (qd ?_);exact back (m := _) ⟨j + 1, _, sb2.set z false, rfl, rfl, rfl, by omega, by rw [List.map_set]; assumption, none_snoc hq (hB2.unset hG.nodup hxi)⟩ af (qh (zu (List.Sublist.append_left kS _))) zl zn
    ·
     refine qd (qo ae ?_);refine qg (qA ak ?_);refine qg (qd ?_);have hje : j = y.1.preds.length := by omega
     rw [hje, List.take_length] at hB2;exact back (m := _) ⟨k + 1, N2, sb2, rfl, rfl, rfl, by omega, hvs2, all_snoc (fst1_at hy) hB2⟩ af zg zl zn
   ·
    refine qd (qo ae ?_);refine qg (qX ag_25 aa ag ?_);refine qg (qg (DoCall.freeze pl_f78 hvs1 (by rw [List.length_map, hB1.1, List.length_map, hfl]; omega) kR ?_));intro h15 le16 hvs1;replace hi := hi.mono le16; replace ho := ho.mono le16;refine qc (anc_marked hi (Sl.one ho.sl) hvs1 hB1.1 (by rw [List.length_map, hfl]; omega)) ?_;rintro v55 h18 L_ le17 ⟨N55, rfl, hv55⟩;refine qg (qg (qd ?_));refine DoRet.r2 (.tmp rfl) (.tmp rfl) (qh (List.Sublist.append_left kS _)) zl ?_;have hke : k = xs.length := by omega
    rw [hke, List.take_of_length_le af] at hB1;exact ⟨N55, rfl, v55, _, rfl, hv55, headsOf_mk hB1⟩
end Go.Brd
namespace Go.Brd
open Go Go.Brd Go.Proofs
set_option linter.unusedVariables false
theorem sc_34 : scalar Tryz.prog 34 = true := by kernel_rfl
def idsG (gs : List GrE) : List ID := gs.flatMap fun g => (fst1 g.xs).map idOf
theorem idsG_snoc (gs : List GrE) (g : GrE) : idsG (gs ++ [g]) = idsG gs ++ (fst1 g.xs).map idOf := by simp [idsG]
theorem idsG_len {gs : List GrE} (h : ∀ g ∈ gs, (fst1 g.xs).length ≤ 60) : (idsG gs).length ≤ 60 * gs.length := by
 induction gs with
 | nil => simp [idsG]
 | cons a r ih =>
  have h1 := h a am;have h2 := ih (fun g hg => h g (by simp [hg]));simp only [idsG, List.flatMap_cons, List.length_append, List.length_map, List.length_cons] at *;omega
theorem idsG_32 {gs : List GrE} : ∀ x ∈ idsG gs, x.length = 32 := fun x hx => by
 obtain ⟨g, _, h⟩ := List.mem_flatMap.1 hx;obtain ⟨o, _, rfl⟩ := List.mem_map.1 h;exact idOf_len o
theorem ment_32 {x : ID} {m : List (ID × Nat)} (hx : x.length = 32) (h : ∀ p ∈ m, p.1.length = 32) : ∀ p ∈ ment x m, p.1.length = 32 := fun p hp => by
 rcases ment_keys hp with h1 | h1
 · exact h p h1
 · rw [h1]; exact hx
theorem minc_32 {x : ID} {m : List (ID × Nat)} (hx : x.length = 32) (h : ∀ p ∈ m, p.1.length = 32) : ∀ p ∈ minc x m, p.1.length = 32 := fun p hp => by
 unfold minc at hp;rcases List.mem_or_eq_of_mem_set hp with h1 | h1
 · exact ment_32 hx h p h1
 · rw [h1]; exact hx
theorem mset_cover {m : List (ID × (Op × Value))} {l : List ID} {x : ID} {y : Op × Value} (h : ∀ z ∈ l, z ∈ m.map Prod.fst) : ∀ z ∈ l ++ [x], z ∈ (mset x y m).map Prod.fst := fun z hz => by
 rw [mset_keys];rcases List.mem_append.1 hz with hz | hz
 · have := h z hz
   split
   · exact this
   · exact List.mem_append_left _ this
 · have : z = x := by simpa using hz
   subst this;split
   · rename_i h1; exact h1
   · simp
def selM (m : List (ID × Nat)) (en : Nat → Bool) (seen : List Nat) : List ID := ((seen.filterMap fun i => m[i]?).filter (fun p => en p.2)).map Prod.fst
theorem selM_snoc {m : List (ID × Nat)} {en : Nat → Bool} {seen : List Nat} {i n : Nat} {x : ID} (h : m[i]? = some (x, n)) : selM m en (seen ++ [i]) = selM m en seen ++ (if en n then [x] else []) := by
 unfold selM;rw [List.filterMap_append, List.filter_append, List.map_append];congr 1
 simp only [List.filterMap_cons, h, List.filterMap_nil, List.filter_cons, List.filter_nil];cases en n <;> simp
theorem selM_mem {m : List (ID × Nat)} {en : Nat → Bool} {seen : List Nat} {x : ID} : x ∈ selM m en seen ↔ ∃ i ∈ seen, ∃ n, m[i]? = some (x, n) ∧ en n = true := by
 unfold selM;simp only [List.mem_map, List.mem_filter, List.mem_filterMap];constructor
 · rintro ⟨⟨y, n⟩, ⟨⟨i, hi, h1⟩, h2⟩, rfl⟩; exact ⟨i, hi, n, h1, h2⟩
 · rintro ⟨i, hi, n, h1, h2⟩; exact ⟨(x, n), ⟨⟨i, hi, h1⟩, h2⟩, rfl⟩
theorem selM_nodup {m : List (ID × Nat)} {en : Nat → Bool} (hm : (m.map Prod.fst).Nodup) : ∀ {seen : List Nat}, seen.Nodup → (selM m en seen).Nodup
 | [], _ => by simp [selM]
 | i :: r, h => by
  have h1 := List.nodup_cons.1 h;have ih := selM_nodup (en := en) hm h1.2;cases hi : m[i]? with
  | none =>
   have : selM m en (i :: r) = selM m en r := by unfold selM; rw [List.filterMap_cons_none hi]
   rw [this]; exact ih
  | some p =>
   obtain ⟨x, n⟩ := p
   have : selM m en (i :: r) = (if en n then [x] else []) ++ selM m en r := by
    unfold selM; rw [List.filterMap_cons_some hi, List.filter_cons]; cases en n <;> simp
   rw [this];cases en n with
   | false => simpa using ih
   | true =>
    simp only [if_true, List.cons_append, List.nil_append];refine List.nodup_cons.2 ⟨fun hx => ?_, ih⟩;obtain ⟨j, hj, n2, h2, _⟩ := selM_mem.1 hx;have e1 : (m.map Prod.fst)[i]? = some x := by rw [List.getElem?_map, hi]; rfl
    have e2 : (m.map Prod.fst)[j]? = some x := by rw [List.getElem?_map, h2]; rfl
    have := nodup_inj hm e1 e2;subst this; exact h1.1 hj
theorem mapA_get {κ β : Type} {kf : κ → List Value} {vf : β → Value} {m : List (κ × β)} {i : Nat} {p : Value × Value} (h : (mapA kf vf m)[i]? = some p) : ∃ x v, m[i]? = some (x, v) ∧ p = (.agg (kf x).toArray, vf v) := by
 unfold mapA at h;rw [List.getElem?_map] at h;cases hm : m[i]? with
 | none => rw [hm] at h; cases h
 | some q => rw [hm] at h; exact ⟨q.1, q.2, rfl, by simpa using h.symm⟩
theorem mapA_len {κ β : Type} (kf : κ → List Value) (vf : β → Value) (m : List (κ × β)) : (mapA kf vf m).length = m.length := by simp [mapA]
structure PickOf (P : List ID) (en : Nat → Bool) (out : List ID) : Prop where
 nd : out.Nodup
 mem : ∀ x, x ∈ out ↔ x ∈ P ∧ en (cntL P x) = true
theorem pickOf_all {P : List ID} {m : List (ID × Nat)} {en : Nat → Bool} {seen : List Nat} {out : List ID} (hc : Cnt P m) (hn : seen.Nodup) (hall : ∀ i, i < m.length → i ∈ seen) (hp : out.Perm (selM m en seen)) : PickOf P en out := by
 refine ⟨hp.nodup_iff.2 (selM_nodup hc.nd hn), fun x => ?_⟩;rw [hp.mem_iff, selM_mem];constructor
 · rintro ⟨i, _, n, h1, h2⟩
   have := hc.cnt _ (List.mem_of_getElem? h1);simp only at this;exact ⟨this.2, by rw [← this.1]; exact h2⟩
 · rintro ⟨h1, h2⟩
   obtain ⟨p, hp, rfl⟩ := List.mem_map.1 (hc.all x h1);obtain ⟨i, hi, e⟩ := List.getElem_of_mem hp;have h3 : m[i]? = some p := by rw [List.getElem?_eq_getElem hi, e]
   exact ⟨i, hall i hi, p.2, by rw [h3], by rw [(hc.cnt p hp).1]; exact h2⟩
theorem conv_picked {c : World} {h : GH} {L : Own} {v0 : Value} {gs : List GrE} {g : Nat} {caps : List Value} {en : Nat → Bool} (hs : RGs h v0 gs) (hG : ∀ g ∈ gs, GOk (fst1 g.xs)) (h5 : gs.length ≤ 5) (hE : ∀ (n : Nat) (h1 : GH) (L0 : Own), GH.le h h1 → Fun Tryz.prog c g ([Value.int .i64 (n : Int)] ++ caps).toArray h1 L0 (fun u _ L' => u = .bool (en n) ∧ L0 = L')):
 Fun Tryz.prog c 34 #[v0, .func (.func g) #[] caps.toArray] h L (fun u h' L' => (∃ iv ov, u = .agg #[iv, ov] ∧ oneCell ov = true ∧ ∃ ids, RIds h' iv ids ∧ PickOf (idsG gs) en ids) ∧ L = L') := by
 have hle0 := GH.le_refl h;refine kF (N := 89) (args := [v0, .func (.func g) #[] caps.toArray]) Tryz.func34 ?_;refine qo ae ?_;refine qg (qa zc_25 ?_);intro b4;refine qd (qo ae ?_);refine qg (make_map ?_);intro b17;refine qg (qd (qo ae ?_));refine qg (make_map ?_);intro b18;refine qg (qd (qo ae ?_));refine qg (qg (qm sl_34 hs.sl ?_));refine qg (qd ?_);refine qL (fun s0 nn s' h' L' => ∃ (k : Nat) (m : List (ID × Nat)) (o : List (ID × (Op × Value))), s' = [(21, .int .i64 k)] ++ qR s0 [1, 4, 5, 6, 19, 20] ∧ nn = gs.length - k ∧ (b18, mapO (mapA idC opX o)) :: (b17, mapO (mapA idC posV m)) :: (b4, .cells [.slice none 0 0, .slice none 0 0].toArray 25 (0, 0)) :: L = L' ∧ k ≤ gs.length ∧ Cnt (idsG (gs.take k)) m ∧ (∀ p ∈ m, p.1.length = 32) ∧ SeenOK h' (allOps gs) o ∧ ∀ z ∈ idsG (gs.take k), z ∈ o.map Prod.fst) ⟨0, [], [], rfl, rfl, rfl, ?_⟩ zg zl zn ?_
 · exact ⟨Nat.zero_le _, Cnt.nil, fun p hp => absurd hp am, fun p hp => (by cases hp), fun z hz => absurd hz (by simp [idsG])⟩
 rintro nn s1 h1 L_ le2 ⟨k, m, o, rfl, rfl, rfl, hk, hc, hm32, ho, hco⟩;replace hs := hs.mono le2; replace hle0 := hle0.mono le2;refine qo ae ?_;refine qg (lssB (fun c22 => ?_) (fun c22 => ?_))
 ·
  have hkl : k < gs.length := by omega
  obtain ⟨x, hx⟩ := qE hkl;have hxm := List.mem_of_getElem? hx;have hr := hs.each x hxm;have hri := hr.ids;have hro := hr.ops;have hGx := hG x hxm;have hxl := fst1_len x.xs;have hx60 := hGx.small;have hil : ((fst1 x.xs).map idOf).length = x.xs.length := by rw [List.length_map, hxl]
  have hPl := idsG_len (gs := gs.take k) (fun g hg => (hG g (List.mem_of_mem_take hg)).small);rw [List.length_take] at hPl;refine qd (qo ae ?_);refine qg (qi (k := k) sl_34 hs.sl rfl hx ?_);intro p23 r23 hl23 hp23;refine qg (qP ag_25 aa aa ?_);refine qg (qa zc_25 ?_);intro b8;refine qg (kB (l' := grC x) si_25 ac ai (grC_one hr) kR ab rfl kR.symm ?_);refine qd (qo ae ?_);refine qg (qw fi_25_0 ?_);refine qg (qO (v := x.iv) sc_22 kH rfl ?_);refine qg (qm sl_22 hri ?_);refine qg (qd ?_);refine qL (fun s0 nn s' h' L' => ∃ (j : Nat) (m2 : List (ID × Nat)) (o2 : List (ID × (Op × Value))), s' = [(28, .int .i64 j)] ++ qR s0 [1, 4, 5, 6, 8, 19, 20, 21, 26, 27] ∧ nn = x.xs.length - j ∧ (b8, .cells (grC x).toArray 25 (0, 0)) :: (b18, mapO (mapA idC opX o2)) :: (b17, mapO (mapA idC posV m2)) :: (b4, .cells [.slice none 0 0, .slice none 0 0].toArray 25 (0, 0)) :: L = L' ∧ j ≤ x.xs.length ∧ Cnt (idsG (gs.take k) ++ ((fst1 x.xs).map idOf).take j) m2 ∧ (∀ p ∈ m2, p.1.length = 32) ∧ SeenOK h' (allOps gs) o2 ∧ ∀ z ∈ (idsG (gs.take k) ++ ((fst1 x.xs).map idOf).take j), z ∈ o2.map Prod.fst) ⟨0, m, o, rfl, rfl, rfl, ?_⟩ zg zl zn ?_
  · exact ⟨Nat.zero_le _, by rw [List.take_zero, List.append_nil]; exact hc, hm32, ho, by rw [List.take_zero, List.append_nil]; exact hco⟩
  rintro nn s1 h3 L_ le4 ⟨j, m2, o2, rfl, rfl, rfl, hj, hc2, hm232, ho2, hco2⟩;replace hri := hri.mono le4; replace hro := hro.mono le4;refine qo ae ?_;refine qg (lssB (fun c29 => ?_) (fun c29 => ?_))
  ·
   rw [hil] at c29;have hjl : j < x.xs.length := by omega
   obtain ⟨y, hy⟩ := qE hjl;have hry := hro.each y (List.mem_of_getElem? hy);obtain ⟨hok, hsg, hyi⟩ := hGx.idx hy;have hcl : (idC (idOf y.1)).length = 32 := by rw [idC_length, idOf_len]
   have hyall : y.1 ∈ allOps gs := mem_allOps hxm (mem_fst1 hy)
   have hcb : mcnt (idOf y.1) m2 ≤ 1000 := by
    rw [hc2.mcnt];refine Nat.le_trans (cntL_le _ _) ?_;rw [List.length_append, List.length_take];omega
   have hts : (idsG (gs.take k) ++ ((fst1 x.xs).map idOf).take j) ++ [idOf y.1] = (idsG (gs.take k) ++ ((fst1 x.xs).map idOf).take (j + 1)) := by rw [takeS hyi, List.append_assoc]
   refine qd (qo ae ?_);refine qg (qg (qi (k := j) sl_22 aa rfl hyi ?_));intro p31 r31 hl31 hp31;refine qg (qP ag_74 aa aa ?_);refine qg (qa zc_74 ?_);intro b10;refine qg (qg (kB (l' := idC (idOf y.1)) si_74 ac hcl (idC_one _) kR ab (over_all (by rw [hcl, List.length_replicate])) kR.symm ?_));refine qd ?_;refine DoDraw.cutP (fun s0 s' h' L' => s' = [] ++ qR s0 [1, 4, 5, 6, 8, 9, 10, 19, 20, 21, 26, 27, 28] ∧ L'.Perm ((b10, .cells (idC (idOf y.1)).toArray 74 (0, 0)) :: (b8, .cells (grC x).toArray 25 (0, 0)) :: (b18, mapO (mapA idC opX o2)) :: (b17, mapO (mapA idC posV (minc (idOf y.1) m2))) :: (b4, .cells [.slice none 0 0, .slice none 0 0].toArray 25 (0, 0)) :: L) ∧ True) ?_ ?_
   ·
    refine D7.all mixed [0, 1, 2, 3, 4, 5, 6] [[0, 1, 2, 3, 4, 5, 6], [0, 1, 2, 4, 3, 5, 6], [0, 1, 2, 4, 5, 3, 6], [0, 1, 4, 2, 3, 5, 6], [0, 1, 4, 2, 5, 3, 6], [0, 1, 4, 5, 2, 3, 6], [1, 0, 2, 3, 4, 5, 6], [1, 0, 2, 4, 3, 5, 6], [1, 0, 2, 4, 5, 3, 6], [1, 0, 4, 2, 3, 5, 6], [1, 0, 4, 2, 5, 3, 6], [1, 0, 4, 5, 2, 3, 6]] ae (fcons ?_ (fcons ?_ (fcons ?_ (fcons ?_ (fcons ?_ (fcons ?_ (fcons ?_ (fcons ?_ (fcons ?_ (fcons ?_ (fcons ?_ (fcons ?_ fnil))))))))))))
    ·
     refine D7.DoSq.step rfl ?_;refine D7.DoSq.step rfl ?_;refine qx (r := idC (idOf y.1)) ag_74 kH (by rw [hcl]; decide) (by rw [List.drop_zero, List.take_of_length_le (by rw [hcl]; decide)]) ?_;refine D7.DoSq.step rfl ?_;refine lookup_cnt (k := idOf y.1) un_126 kt_id (idOf_len _) (by first | exact hm232 | exact ment_32 (idOf_len _) hm232) zvi_3 (.inr (kT (kT (kT kH)))) ?_
     try rw [mcnt_ment]
     refine D7.DoSq.step rfl ?_;refine add_i64n (a := mcnt (idOf y.1) m2) (b := 1) af ?_;refine D7.DoSq.step rfl ?_;refine entry_cnt (k := idOf y.1) (m := m2) un_126 kt_id (idOf_len _) hm232 zvi_3 ((zc ((zc ((zc kR).trans zw)).trans zw)).trans zw) ⟨_, ((zc ((zc ((zc kR).trans zw)).trans zw)).trans zw).symm, ?_⟩;refine D7.DoSq.step rfl ?_;refine D7.DoSq.step rfl ?_;refine entry_storeA (k := idOf y.1) (v := mcnt (idOf y.1) m2 + 1) (vf := posV) (ment_at (idOf y.1) m2) rfl ((zc ((zc ((zc kR).trans zw)).trans zw)).trans zw) ((zc ((zc ((zc kR).trans zw)).trans zw)).trans zw).symm ?_;exact D7.DoSq.done zn ⟨rfl, (kR.trans (zc (kR.trans (zc (kR.trans (zc (kR.trans (zc (kR.trans (zc kR)))))))))), trivial⟩
    ·
     refine D7.DoSq.step rfl ?_;refine D7.DoSq.step rfl ?_;refine qx (r := idC (idOf y.1)) ag_74 kH (by rw [hcl]; decide) (by rw [List.drop_zero, List.take_of_length_le (by rw [hcl]; decide)]) ?_;refine D7.DoSq.step rfl ?_;refine lookup_cnt (k := idOf y.1) un_126 kt_id (idOf_len _) (by first | exact hm232 | exact ment_32 (idOf_len _) hm232) zvi_3 (.inr (kT (kT (kT kH)))) ?_
     try rw [mcnt_ment]
     refine D7.DoSq.step rfl ?_;refine entry_cnt (k := idOf y.1) (m := m2) un_126 kt_id (idOf_len _) hm232 zvi_3 ((zc ((zc ((zc kR).trans zw)).trans zw)).trans zw) ⟨_, ((zc ((zc ((zc kR).trans zw)).trans zw)).trans zw).symm, ?_⟩;refine D7.DoSq.step rfl ?_;refine add_i64n (a := mcnt (idOf y.1) m2) (b := 1) af ?_;refine D7.DoSq.step rfl ?_;refine D7.DoSq.step rfl ?_;refine entry_storeA (k := idOf y.1) (v := mcnt (idOf y.1) m2 + 1) (vf := posV) (ment_at (idOf y.1) m2) rfl ((zc ((zc ((zc kR).trans zw)).trans zw)).trans zw) ((zc ((zc ((zc kR).trans zw)).trans zw)).trans zw).symm ?_;exact D7.DoSq.done zn ⟨rfl, (kR.trans (zc (kR.trans (zc (kR.trans (zc (kR.trans (zc (kR.trans (zc kR)))))))))), trivial⟩
    ·
     refine D7.DoSq.step rfl ?_;refine D7.DoSq.step rfl ?_;refine qx (r := idC (idOf y.1)) ag_74 kH (by rw [hcl]; decide) (by rw [List.drop_zero, List.take_of_length_le (by rw [hcl]; decide)]) ?_;refine D7.DoSq.step rfl ?_;refine lookup_cnt (k := idOf y.1) un_126 kt_id (idOf_len _) (by first | exact hm232 | exact ment_32 (idOf_len _) hm232) zvi_3 (.inr (kT (kT (kT kH)))) ?_
     try rw [mcnt_ment]
     refine D7.DoSq.step rfl ?_;refine entry_cnt (k := idOf y.1) (m := m2) un_126 kt_id (idOf_len _) hm232 zvi_3 ((zc ((zc ((zc kR).trans zw)).trans zw)).trans zw) ⟨_, ((zc ((zc ((zc kR).trans zw)).trans zw)).trans zw).symm, ?_⟩;refine D7.DoSq.step rfl ?_;refine D7.DoSq.step rfl ?_;refine add_i64n (a := mcnt (idOf y.1) m2) (b := 1) af ?_;refine D7.DoSq.step rfl ?_;refine entry_storeA (k := idOf y.1) (v := mcnt (idOf y.1) m2 + 1) (vf := posV) (ment_at (idOf y.1) m2) rfl ((zc ((zc ((zc kR).trans zw)).trans zw)).trans zw) ((zc ((zc ((zc kR).trans zw)).trans zw)).trans zw).symm ?_;exact D7.DoSq.done zn ⟨rfl, (kR.trans (zc (kR.trans (zc (kR.trans (zc (kR.trans (zc (kR.trans (zc kR)))))))))), trivial⟩
    ·
     refine D7.DoSq.step rfl ?_;refine D7.DoSq.step rfl ?_;refine qx (r := idC (idOf y.1)) ag_74 kH (by rw [hcl]; decide) (by rw [List.drop_zero, List.take_of_length_le (by rw [hcl]; decide)]) ?_;refine D7.DoSq.step rfl ?_;refine entry_cnt (k := idOf y.1) (m := m2) un_126 kt_id (idOf_len _) hm232 zvi_3 ((zc ((zc ((zc kR).trans zw)).trans zw)).trans zw) ⟨_, ((zc ((zc ((zc kR).trans zw)).trans zw)).trans zw).symm, ?_⟩;refine D7.DoSq.step rfl ?_;refine lookup_cnt (k := idOf y.1) un_126 kt_id (idOf_len _) (by first | exact hm232 | exact ment_32 (idOf_len _) hm232) zvi_3 (.inr (kT (kT (kT kH)))) ?_
     try rw [mcnt_ment]
     refine D7.DoSq.step rfl ?_;refine add_i64n (a := mcnt (idOf y.1) m2) (b := 1) af ?_;refine D7.DoSq.step rfl ?_;refine D7.DoSq.step rfl ?_;refine entry_storeA (k := idOf y.1) (v := mcnt (idOf y.1) m2 + 1) (vf := posV) (ment_at (idOf y.1) m2) rfl ((zc ((zc ((zc kR).trans zw)).trans zw)).trans zw) ((zc ((zc ((zc kR).trans zw)).trans zw)).trans zw).symm ?_;exact D7.DoSq.done zn ⟨rfl, (kR.trans (zc (kR.trans (zc (kR.trans (zc (kR.trans (zc (kR.trans (zc kR)))))))))), trivial⟩
    ·
     refine D7.DoSq.step rfl ?_;refine D7.DoSq.step rfl ?_;refine qx (r := idC (idOf y.1)) ag_74 kH (by rw [hcl]; decide) (by rw [List.drop_zero, List.take_of_length_le (by rw [hcl]; decide)]) ?_;refine D7.DoSq.step rfl ?_;refine entry_cnt (k := idOf y.1) (m := m2) un_126 kt_id (idOf_len _) hm232 zvi_3 ((zc ((zc ((zc kR).trans zw)).trans zw)).trans zw) ⟨_, ((zc ((zc ((zc kR).trans zw)).trans zw)).trans zw).symm, ?_⟩;refine D7.DoSq.step rfl ?_;refine lookup_cnt (k := idOf y.1) un_126 kt_id (idOf_len _) (by first | exact hm232 | exact ment_32 (idOf_len _) hm232) zvi_3 (.inr (kT (kT (kT kH)))) ?_
     try rw [mcnt_ment]
     refine D7.DoSq.step rfl ?_;refine D7.DoSq.step rfl ?_;refine add_i64n (a := mcnt (idOf y.1) m2) (b := 1) af ?_;refine D7.DoSq.step rfl ?_;refine entry_storeA (k := idOf y.1) (v := mcnt (idOf y.1) m2 + 1) (vf := posV) (ment_at (idOf y.1) m2) rfl ((zc ((zc ((zc kR).trans zw)).trans zw)).trans zw) ((zc ((zc ((zc kR).trans zw)).trans zw)).trans zw).symm ?_;exact D7.DoSq.done zn ⟨rfl, (kR.trans (zc (kR.trans (zc (kR.trans (zc (kR.trans (zc (kR.trans (zc kR)))))))))), trivial⟩
    ·
     refine D7.DoSq.step rfl ?_;refine D7.DoSq.step rfl ?_;refine qx (r := idC (idOf y.1)) ag_74 kH (by rw [hcl]; decide) (by rw [List.drop_zero, List.take_of_length_le (by rw [hcl]; decide)]) ?_;refine D7.DoSq.step rfl ?_;refine entry_cnt (k := idOf y.1) (m := m2) un_126 kt_id (idOf_len _) hm232 zvi_3 ((zc ((zc ((zc kR).trans zw)).trans zw)).trans zw) ⟨_, ((zc ((zc ((zc kR).trans zw)).trans zw)).trans zw).symm, ?_⟩;refine D7.DoSq.step rfl ?_;refine D7.DoSq.step rfl ?_;refine lookup_cnt (k := idOf y.1) un_126 kt_id (idOf_len _) (by first | exact hm232 | exact ment_32 (idOf_len _) hm232) zvi_3 (.inr (kT (kT (kT kH)))) ?_
     try rw [mcnt_ment]
     refine D7.DoSq.step rfl ?_;refine add_i64n (a := mcnt (idOf y.1) m2) (b := 1) af ?_;refine D7.DoSq.step rfl ?_;refine entry_storeA (k := idOf y.1) (v := mcnt (idOf y.1) m2 + 1) (vf := posV) (ment_at (idOf y.1) m2) rfl ((zc ((zc ((zc kR).trans zw)).trans zw)).trans zw) ((zc ((zc ((zc kR).trans zw)).trans zw)).trans zw).symm ?_;exact D7.DoSq.done zn ⟨rfl, (kR.trans (zc (kR.trans (zc (kR.trans (zc (kR.trans (zc (kR.trans (zc kR)))))))))), trivial⟩
    ·
     refine D7.DoSq.step rfl ?_;refine qx (r := idC (idOf y.1)) ag_74 kH (by rw [hcl]; decide) (by rw [List.drop_zero, List.take_of_length_le (by rw [hcl]; decide)]) ?_;refine D7.DoSq.step rfl ?_;refine D7.DoSq.step rfl ?_;refine lookup_cnt (k := idOf y.1) un_126 kt_id (idOf_len _) (by first | exact hm232 | exact ment_32 (idOf_len _) hm232) zvi_3 (.inr (kT (kT (kT kH)))) ?_
     try rw [mcnt_ment]
     refine D7.DoSq.step rfl ?_;refine add_i64n (a := mcnt (idOf y.1) m2) (b := 1) af ?_;refine D7.DoSq.step rfl ?_;refine entry_cnt (k := idOf y.1) (m := m2) un_126 kt_id (idOf_len _) hm232 zvi_3 ((zc ((zc ((zc kR).trans zw)).trans zw)).trans zw) ⟨_, ((zc ((zc ((zc kR).trans zw)).trans zw)).trans zw).symm, ?_⟩;refine D7.DoSq.step rfl ?_;refine D7.DoSq.step rfl ?_;refine entry_storeA (k := idOf y.1) (v := mcnt (idOf y.1) m2 + 1) (vf := posV) (ment_at (idOf y.1) m2) rfl ((zc ((zc ((zc kR).trans zw)).trans zw)).trans zw) ((zc ((zc ((zc kR).trans zw)).trans zw)).trans zw).symm ?_;exact D7.DoSq.done zn ⟨rfl, (kR.trans (zc (kR.trans (zc (kR.trans (zc (kR.trans (zc (kR.trans (zc kR)))))))))), trivial⟩
    ·
     refine D7.DoSq.step rfl ?_;refine qx (r := idC (idOf y.1)) ag_74 kH (by rw [hcl]; decide) (by rw [List.drop_zero, List.take_of_length_le (by rw [hcl]; decide)]) ?_;refine D7.DoSq.step rfl ?_;refine D7.DoSq.step rfl ?_;refine lookup_cnt (k := idOf y.1) un_126 kt_id (idOf_len _) (by first | exact hm232 | exact ment_32 (idOf_len _) hm232) zvi_3 (.inr (kT (kT (kT kH)))) ?_
     try rw [mcnt_ment]
     refine D7.DoSq.step rfl ?_;refine entry_cnt (k := idOf y.1) (m := m2) un_126 kt_id (idOf_len _) hm232 zvi_3 ((zc ((zc ((zc kR).trans zw)).trans zw)).trans zw) ⟨_, ((zc ((zc ((zc kR).trans zw)).trans zw)).trans zw).symm, ?_⟩;refine D7.DoSq.step rfl ?_;refine add_i64n (a := mcnt (idOf y.1) m2) (b := 1) af ?_;refine D7.DoSq.step rfl ?_;refine D7.DoSq.step rfl ?_;refine entry_storeA (k := idOf y.1) (v := mcnt (idOf y.1) m2 + 1) (vf := posV) (ment_at (idOf y.1) m2) rfl ((zc ((zc ((zc kR).trans zw)).trans zw)).trans zw) ((zc ((zc ((zc kR).trans zw)).trans zw)).trans zw).symm ?_;exact D7.DoSq.done zn ⟨rfl, (kR.trans (zc (kR.trans (zc (kR.trans (zc (kR.trans (zc (kR.trans (zc kR)))))))))), trivial⟩
    ·
     refine D7.DoSq.step rfl ?_;refine qx (r := idC (idOf y.1)) ag_74 kH (by rw [hcl]; decide) (by rw [List.drop_zero, List.take_of_length_le (by rw [hcl]; decide)]) ?_;refine D7.DoSq.step rfl ?_;refine D7.DoSq.step rfl ?_;refine lookup_cnt (k := idOf y.1) un_126 kt_id (idOf_len _) (by first | exact hm232 | exact ment_32 (idOf_len _) hm232) zvi_3 (.inr (kT (kT (kT kH)))) ?_
     try rw [mcnt_ment]
     refine D7.DoSq.step rfl ?_;refine entry_cnt (k := idOf y.1) (m := m2) un_126 kt_id (idOf_len _) hm232 zvi_3 ((zc ((zc ((zc kR).trans zw)).trans zw)).trans zw) ⟨_, ((zc ((zc ((zc kR).trans zw)).trans zw)).trans zw).symm, ?_⟩;refine D7.DoSq.step rfl ?_;refine D7.DoSq.step rfl ?_;refine add_i64n (a := mcnt (idOf y.1) m2) (b := 1) af ?_;refine D7.DoSq.step rfl ?_;refine entry_storeA (k := idOf y.1) (v := mcnt (idOf y.1) m2 + 1) (vf := posV) (ment_at (idOf y.1) m2) rfl ((zc ((zc ((zc kR).trans zw)).trans zw)).trans zw) ((zc ((zc ((zc kR).trans zw)).trans zw)).trans zw).symm ?_;exact D7.DoSq.done zn ⟨rfl, (kR.trans (zc (kR.trans (zc (kR.trans (zc (kR.trans (zc (kR.trans (zc kR)))))))))), trivial⟩
    ·
     refine D7.DoSq.step rfl ?_;refine qx (r := idC (idOf y.1)) ag_74 kH (by rw [hcl]; decide) (by rw [List.drop_zero, List.take_of_length_le (by rw [hcl]; decide)]) ?_;refine D7.DoSq.step rfl ?_;refine D7.DoSq.step rfl ?_;refine entry_cnt (k := idOf y.1) (m := m2) un_126 kt_id (idOf_len _) hm232 zvi_3 ((zc ((zc ((zc kR).trans zw)).trans zw)).trans zw) ⟨_, ((zc ((zc ((zc kR).trans zw)).trans zw)).trans zw).symm, ?_⟩;refine D7.DoSq.step rfl ?_;refine lookup_cnt (k := idOf y.1) un_126 kt_id (idOf_len _) (by first | exact hm232 | exact ment_32 (idOf_len _) hm232) zvi_3 (.inr (kT (kT (kT kH)))) ?_
     try rw [mcnt_ment]
     refine D7.DoSq.step rfl ?_;refine add_i64n (a := mcnt (idOf y.1) m2) (b := 1) af ?_;refine D7.DoSq.step rfl ?_;refine D7.DoSq.step rfl ?_;refine entry_storeA (k := idOf y.1) (v := mcnt (idOf y.1) m2 + 1) (vf := posV) (ment_at (idOf y.1) m2) rfl ((zc ((zc ((zc kR).trans zw)).trans zw)).trans zw) ((zc ((zc ((zc kR).trans zw)).trans zw)).trans zw).symm ?_;exact D7.DoSq.done zn ⟨rfl, (kR.trans (zc (kR.trans (zc (kR.trans (zc (kR.trans (zc (kR.trans (zc kR)))))))))), trivial⟩
    ·
     refine D7.DoSq.step rfl ?_;refine qx (r := idC (idOf y.1)) ag_74 kH (by rw [hcl]; decide) (by rw [List.drop_zero, List.take_of_length_le (by rw [hcl]; decide)]) ?_;refine D7.DoSq.step rfl ?_;refine D7.DoSq.step rfl ?_;refine entry_cnt (k := idOf y.1) (m := m2) un_126 kt_id (idOf_len _) hm232 zvi_3 ((zc ((zc ((zc kR).trans zw)).trans zw)).trans zw) ⟨_, ((zc ((zc ((zc kR).trans zw)).trans zw)).trans zw).symm, ?_⟩;refine D7.DoSq.step rfl ?_;refine lookup_cnt (k := idOf y.1) un_126 kt_id (idOf_len _) (by first | exact hm232 | exact ment_32 (idOf_len _) hm232) zvi_3 (.inr (kT (kT (kT kH)))) ?_
     try rw [mcnt_ment]
     refine D7.DoSq.step rfl ?_;refine D7.DoSq.step rfl ?_;refine add_i64n (a := mcnt (idOf y.1) m2) (b := 1) af ?_;refine D7.DoSq.step rfl ?_;refine entry_storeA (k := idOf y.1) (v := mcnt (idOf y.1) m2 + 1) (vf := posV) (ment_at (idOf y.1) m2) rfl ((zc ((zc ((zc kR).trans zw)).trans zw)).trans zw) ((zc ((zc ((zc kR).trans zw)).trans zw)).trans zw).symm ?_;exact D7.DoSq.done zn ⟨rfl, (kR.trans (zc (kR.trans (zc (kR.trans (zc (kR.trans (zc (kR.trans (zc kR)))))))))), trivial⟩
    ·
     refine D7.DoSq.step rfl ?_;refine qx (r := idC (idOf y.1)) ag_74 kH (by rw [hcl]; decide) (by rw [List.drop_zero, List.take_of_length_le (by rw [hcl]; decide)]) ?_;refine D7.DoSq.step rfl ?_;refine D7.DoSq.step rfl ?_;refine entry_cnt (k := idOf y.1) (m := m2) un_126 kt_id (idOf_len _) hm232 zvi_3 ((zc ((zc ((zc kR).trans zw)).trans zw)).trans zw) ⟨_, ((zc ((zc ((zc kR).trans zw)).trans zw)).trans zw).symm, ?_⟩;refine D7.DoSq.step rfl ?_;refine D7.DoSq.step rfl ?_;refine lookup_cnt (k := idOf y.1) un_126 kt_id (idOf_len _) (by first | exact hm232 | exact ment_32 (idOf_len _) hm232) zvi_3 (.inr (kT (kT (kT kH)))) ?_
     try rw [mcnt_ment]
     refine D7.DoSq.step rfl ?_;refine add_i64n (a := mcnt (idOf y.1) m2) (b := 1) af ?_;refine D7.DoSq.step rfl ?_;refine entry_storeA (k := idOf y.1) (v := mcnt (idOf y.1) m2 + 1) (vf := posV) (ment_at (idOf y.1) m2) rfl ((zc ((zc ((zc kR).trans zw)).trans zw)).trans zw) ((zc ((zc ((zc kR).trans zw)).trans zw)).trans zw).symm ?_;exact D7.DoSq.done zn ⟨rfl, (kR.trans (zc (kR.trans (zc (kR.trans (zc (kR.trans (zc (kR.trans (zc kR)))))))))), trivial⟩
   ·
    rintro s1 h5 L_ le6 ⟨rfl, hpm, _⟩;refine ⟨_, hpm, ?_⟩;replace hro := hro.mono le6; replace ho2 := ho2.mono le6;refine qD mixed [] [0, 1, 2, 3, 4, 5, 6, 7] (_ :: (_ :: [])) ae (qq kH (qq (kT kH) sub_nil)) ?_;refine qr rfl rfl rfl (qr rfl rfl rfl (qx (r := idC (idOf y.1)) ag_74 kH (by rw [hcl]; decide) (by rw [List.drop_zero, List.take_of_length_le (by rw [hcl]; decide)]) ?_));refine qr rfl rfl rfl (qw fi_25_1 ?_);refine qr rfl rfl rfl (qO (v := x.ov) sc_23 (kT kH) rfl ?_);refine qr rfl rfl rfl (qr rfl rfl rfl (qi (k := j) sl_23 hro.sl rfl hy ?_));intro p44 r44 hl44 hp44;refine qr rfl rfl rfl (qP ag_61 hp44 rfl ?_);refine qj rfl rfl rfl ?_;refine map_updateA (k := idOf y.1) (v := y) un_134 kt_id (idOf_len _) ho2.keys rfl ((zc ((zc kR).trans zw)).trans zw) ((zc ((zc kR).trans zw)).trans zw).symm ?_;refine ⟨(qq kH (qq (kT kH) sub_nil)), ?_⟩;refine qe zf ?_;refine qo ae ?_;refine qg (qA ak ?_);refine qg (qd ?_);exact back (m := _) ⟨j + 1, minc (idOf y.1) m2, mset (idOf y.1) y o2, rfl, rfl, rfl, by omega, by rw [← hts]; exact hc2.inc _, minc_32 (idOf_len _) hm232, ho2.set hyall (hro.each y (List.mem_of_getElem? hy)), by rw [← hts]; exact mset_cover hco2⟩ af (qh (zu (zv (zv (zv (zv kS)))))) zl zn
  ·
   rw [hil] at c29;have hje : j = x.xs.length := by omega
   have e9 : ((fst1 x.xs).map idOf).take j = (fst1 x.xs).map idOf := List.take_of_length_le (by rw [hil]; omega);rw [e9, ← idsG_snoc, ← takeS hx] at hc2 hco2;refine qd (qo ae ?_);refine qg (qA ak ?_);refine qg (qd ?_);exact back (m := _) ⟨k + 1, m2, o2, rfl, rfl, rfl, by omega, hc2, hm232, ho2, hco2⟩ af (qh (zu (zv (zv (zv kS))))) zl zn
 ·
  have hke : k = gs.length := by omega
  rw [hke, List.take_length] at hc hco
  have hml : m.length ≤ 400 := by
   have h1 := List.Nodup.length_le_of_subset hc.nd (l₂ := idsG gs) (fun z hz => by obtain ⟨p, hp, rfl⟩ := List.mem_map.1 hz; exact (hc.cnt p hp).2);have h2 := idsG_len (gs := gs) (fun g hg => (hG g hg).small);rw [List.length_map] at h1; omega
  refine qd (qo ae ?_);refine qg (qa zc_25 ?_);intro b11;refine qd ?_;refine DoRg.freezeBox ((zc ((zc kR).trans zw)).trans zw) ?_;intro h7 le8 hfz;replace hle0 := hle0.mono le8; replace ho := ho.mono le8;have hfm : Fz _ b17 (mapO (mapA idC posV m)) := hfz;refine DoRg.freezeBox ((zc kR).trans zw) ?_;intro h9 le10 hfz;replace hle0 := hle0.mono le10; replace ho := ho.mono le10; replace hfm := hfm.mono le10;have hfo : Fz _ b18 (mapO (mapA idC opX o)) := hfz;refine qo ae ?_;refine qg (qg (range_map un_126 (.inl hfm) ?_));intro b49;refine qd ?_;refine qL (fun s0 nn s' h' L' => ∃ (seen : List Nat) (v : Value) (N : Own), s' = [] ++ qR s0 [1, 4, 6, 11, 49] ∧ nn = 2 * (m.length - seen.length) ∧ N ++ ((b49, iterO b17 (mapA idC posV m).length seen) :: (b11, .cells [v, .slice none 0 0].toArray 25 (0, 0)) :: (b4, .cells [.slice none 0 0, .slice none 0 0].toArray 25 (0, 0)) :: L) = L' ∧ OS 74 32 v ((selM m en seen).map idC) N ∧ seen.Nodup ∧ ∀ i ∈ seen, i < m.length) ⟨[], _, [], rfl, rfl, rfl, ?_⟩ zg zl zn ?_
  · exact ⟨OS.nil _ _, List.nodup_nil, fun i hi => absurd hi am⟩
  rintro nn s1 h11 L_ le12 ⟨seen, v, N, rfl, rfl, rfl, hv, hsn, hsl⟩;replace hle0 := hle0.mono le12; replace ho := ho.mono le12; replace hfm := hfm.mono le12; replace hfo := hfo.mono le12;refine qo ae ?_;refine qg (next_map ((za kR).trans zm) (.inl hfm) (fun i p hp hni => ⟨_, ((za kR).trans zm).symm, ?_⟩) (fun hall => ?_))
  ·
   obtain ⟨x, n, hmi, rfl⟩ := mapA_get hp;have hx32 := hm32 _ (List.mem_of_getElem? hmi);have hcl : (idC x).length = 32 := by rw [idC_length]; exact hx32
   have hil2 := (List.getElem?_eq_some_iff.1 hmi).1;have hsn2 : (seen ++ [i]).Nodup := by rw [List.nodup_append]; exact ⟨hsn, by simp, fun a ha b hb e => hni (by simp at hb; subst hb; subst e; exact ha)⟩
   have hsl2 : ∀ z ∈ seen ++ [i], z < m.length := fun z hz => by
    rcases List.mem_append.1 hz with hz | hz
    · exact hsl z hz
    · have : z = i := by simpa using hz
      omega
   have hsl3 : (seen ++ [i]).length = seen.length + 1 := by simp
   have hlen := nodup_le _ _ hsn2 hsl2;rw [List.length_append, List.length_singleton] at hlen;have hss := selM_snoc (en := en) (seen := seen) hmi
   have hno : (selM m en seen).length ≤ 400 := by
    have h1 : (selM m en seen).length ≤ seen.length := by unfold selM; rw [List.length_map]; exact Nat.le_trans (List.length_filter_le _ _) (List.length_filterMap_le _ _)
    have h2 : m.length ≤ 400 := hml;omega
   refine qg (qd (qo ae ?_));refine qg (entry_map (i := i) ((za kR).trans zm) (.inl hfm) hp ?_);refine qg (qg (qg (qa zc_74 ?_)));intro b12;refine qg (kB (l' := idC x) si_74 ac hcl (idC_one _) kR ab (over_all (by rw [hcl, List.length_replicate])) kR.symm ?_);refine qg (qd (qo ae ?_));refine qg (qg (qg (DoCall.clo (hE n _ _ hle0) ?_)));rintro v57 h14 L_ le13 ⟨rfl, rfl⟩;refine qd ?_;cases hb57 : en n
   ·
    exact back (m := _) ⟨seen ++ [i], v, N, rfl, rfl, rfl, by rw [hss, hb57]; simpa using hv, hsn2, hsl2⟩ af (qh (zu (List.Sublist.append_left (zv (zv (zv kS))) _))) zl zn
   ·
    refine qo ae ?_;refine qg (qw fi_25_0 ?_);refine qg (qO (v := v) sc_22 (kT (zq (kT kH))) rfl ?_);refine qg (qx (r := idC x) ag_74 kH (by rw [hcl]; decide) (by rw [List.drop_zero, List.take_of_length_le (by rw [hcl]; decide)]) ?_);refine qg (qB sl_22 z_74 rfl ag ah (idC_one _) ?_);intro v61 h16 le15 hv61;refine qg (qp sl_22 sl_22 z_74 aa aa ((zc kR).trans zm.symm) (by rw [List.length_map]; simp; omega) ?_);intro v62 N62 hv62;refine ⟨_, ((zc kR).trans zm.symm).symm, ?_⟩;refine qg (qw fi_25_0 ?_);refine qg (kB (l' := [v62, .slice none 0 0]) si_22 ac ai ad ((zc ((za ((zc kR).trans zw)).trans zm)).trans zw) ab rfl ((zc ((za ((zc kR).trans zw)).trans zm)).trans zw).symm ?_);refine qd ?_;exact back (m := _) ⟨seen ++ [i], v62, _, rfl, rfl, rfl, by rw [hss, hb57, List.map_append]; exact hv62, hsn2, hsl2⟩ af (qh (zu (List.Sublist.append_left (zv (zv (zv kS))) _))) zl zn
  ·
   have hall2 : ∀ i, i < m.length → i ∈ seen := fun i hi => hall i (by rw [mapA_len]; exact hi)
   have hs32 : ∀ z ∈ selM m en seen, z.length = 32 := fun z hz => by
    obtain ⟨i, _, n, h1, _⟩ := selM_mem.1 hz;exact hm32 _ (List.mem_of_getElem? h1)
   have hselL : (selM m en seen).length ≤ 400 := by
    have h1 : (selM m en seen).length ≤ seen.length := by unfold selM; rw [List.length_map]; exact Nat.le_trans (List.length_filter_le _ _) (List.length_filterMap_le _ _)
    have h2 := nodup_le _ _ hsn hsl;omega
   refine qg (qd (qo ae ?_));refine qg (qw fi_25_0 ?_);refine qg (qO (v := v) sc_22 (zq (kT kH)) rfl ?_);refine qg (qG kR (sort_ids hs32 hv af) ?_);rintro v66 h18 N66 le17 ⟨ys, hyp, hysrt, hys⟩;refine ⟨_, kR.symm, ?_⟩;replace ho := ho.mono le17; replace hfo := hfo.mono le17;have hpk : PickOf (idsG gs) en ys := pickOf_all hc hsn hall2 hyp;have hyl : ys.length ≤ 400 := by rw [hyp.length_eq]; exact hselL
   refine qd (qo ae ?_);refine qg (qw fi_25_0 ?_);refine qg (qO (v := v) sc_22 (zq (kT kH)) rfl ?_);refine qg (len_os sl_22 hys ?_);refine qg (qd ?_);refine qL (fun s0 nn s' h' L' => ∃ (k2 : Nat) (vo : Value) (No : Own) (zs : List (Op × Value)), s' = [(70, .int .i64 k2)] ++ qR s0 [4, 6, 11, 68, 69] ∧ nn = ys.length - k2 ∧ No ++ (N66 ++ ((b49, iterO b17 (mapA idC posV m).length seen) :: (b11, .cells [v, vo].toArray 25 (0, 0)) :: (b4, .cells [.slice none 0 0, .slice none 0 0].toArray 25 (0, 0)) :: L)) = L' ∧ k2 ≤ ys.length ∧ OS 61 11 vo (zs.map opC) No ∧ RAll h' zs ∧ zs.length = k2) ⟨0, _, [], [], rfl, rfl, rfl, ?_⟩ zg zl zn ?_
   · exact ⟨Nat.zero_le _, OS.nil _ _, RAll.nil _, rfl⟩
   rintro nn s1 h19 L_ le20 ⟨k2, vo, No, zs, rfl, rfl, rfl, hk2, hvo, hzs, hzl⟩;replace ho := ho.mono le20; replace hfo := hfo.mono le20;refine qo ae ?_;refine qg (lssB (fun c71 => ?_) (fun c71 => ?_))
   ·
    rw [List.length_map] at c71;have hkl2 : k2 < ys.length := by omega
    obtain ⟨q, hq⟩ := qE hkl2;have hqP := ((hpk.mem q).1 (List.mem_of_getElem? hq)).1;have hq32 : q.length = 32 := idsG_32 q hqP;have hqo := hco q hqP;have hcl : (idC q).length = 32 := by rw [idC_length]; exact hq32
    refine qd (qo ae ?_);refine qg (index_os (k := k2) sl_22 aa rfl (by rw [List.length_map]; exact hkl2) ?_);intro p72 hp72;refine qg (load_osX (r := idC q) ag_74 aa aa (fun e he => (zq (List.mem_append_left _ he))) (map_get hq) (by rw [hcl]; decide) (by rw [List.drop_zero, List.take_of_length_le (by rw [hcl]; decide)]) ?_);refine qg (qa zc_74 ?_);intro b15;refine qg (kB (l' := idC q) si_74 ac hcl (idC_one _) kR ab (over_all (by rw [hcl, List.length_replicate])) kR.symm ?_);refine qd (qo ae ?_);refine qg (qg (qx (r := idC q) ag_74 kH (by rw [hcl]; decide) (by rw [List.drop_zero, List.take_of_length_le (by rw [hcl]; decide)]) ?_));refine qg (lookup_mapA (k := q) un_134 kt_id hq32 ho.keys zva_61 (.inl hfo) (fun iz w hget => ?_) (fun hget => absurd hqo (mget_none.1 hget)));obtain ⟨hw1, hw2, hw3⟩ := ho _ (mget_mem hget);simp only at hw1 hw2 hw3;have hwp : RIds _ w.2 w.1.preds := hw3.preds
    have hwl : w.1.preds.length ≤ 4 := by
     obtain ⟨g, hg1, hg2⟩ := List.mem_flatMap.1 hw2;obtain ⟨iw, hiw, ew⟩ := List.getElem_of_mem hg2;exact (hG g hg1).preds_le (by rw [List.getElem?_eq_getElem hiw, ew])
    refine qg (qa zc_61 ?_);intro b16;refine qg (kB (l' := opC2 w.1 w.2) si_61 ac ai (opC_one2 (Sl.one hwp)) kR ab rfl kR.symm ?_);refine qd (qo ae ?_);refine qg (qw fi_61_1 ?_);refine qg (qO (v := w.2) sc_22 kH rfl ?_);refine qg (qc (Fun.frozen al (clone_id hwp al)) ?_);rintro v79 h22 L_ le21 ⟨rfl, hv79⟩;replace hzs := hzs.mono le21;refine qg (qw fi_61_1 ?_);refine qg (kB (l' := opC (w.1, v79)) si_22 ac ai ad kR ab rfl kR.symm ?_);refine qd (qo ae ?_);refine qg (qw fi_25_1 ?_);refine qg (qO (v := vo) sc_23 (kT (kT (zq (zq (kT kH))))) rfl ?_);refine qg (qx (r := opC (w.1, v79)) ag_61 kH ab rfl ?_);refine qg (qB sl_23 z_61 rfl ag ah (opC_one2 (Sl.one hv79)) ?_);intro v84 h24 le23 hv84;replace hzs := hzs.mono le23; replace hv79 := hv79.mono le23;refine qg (qp sl_23 sl_23 z_61 aa aa ((zc ((zc kR).trans zm.symm)).trans zm.symm) (by rw [List.length_map]; simp; omega) ?_);intro v85 N85 hv85;refine ⟨_, ((zc ((zc kR).trans zm.symm)).trans zm.symm).symm, ?_⟩;refine qg (qw fi_25_1 ?_);refine qg (kB (l' := [v, v85]) si_23 ac ai ad ((zc ((zc ((za ((za ((zc kR).trans zw)).trans zm)).trans zm)).trans zw)).trans zw) ab rfl ((zc ((zc ((za ((za ((zc kR).trans zw)).trans zm)).trans zm)).trans zw)).trans zw).symm ?_);refine qd (qo ae ?_);refine qg (qA ak ?_);refine qg (qd ?_);exact back (m := _) ⟨k2 + 1, v85, N85, zs ++ [(w.1, v79)], rfl, rfl, rfl, by omega, by rw [List.map_append]; exact hv85, hzs.snoc hv79 hw3.wf, by rw [List.length_append, hzl]; rfl⟩ af (qh (zu (zu (List.Sublist.append_left (List.Sublist.append_left (zv (zv (zv kS))) _) _)))) zl zn
   ·
    refine qd (qo ae ?_);refine qg (qx (r := [v, vo]) ag_25 (zq (zq (kT kH))) ab rfl ?_);refine qg (kB (l' := [v, vo]) si_25 ac ai (show ([v, vo] : List Value).all oneCell = true by simp [OS.one hys, OS.one hvo]) ((za ((za ((zc ((zc kR).trans zw)).trans zw)).trans zm)).trans zm) ab rfl ((za ((za ((zc ((zc kR).trans zw)).trans zw)).trans zm)).trans zm).symm ?_);refine qd ?_;refine DoRet.freeze hys al ((za kR).trans (List.perm_append_comm_assoc _ _ _)) ?_;intro h25 le26 hys;refine DoRet.freeze hvo al kR ?_;intro h27 le28 hvo;replace hys := hys.mono le28;refine DoRet.r1 (.cell rfl (qx (r := [v, vo]) ag_25 (kT (kT kH)) ab rfl rfl)) (qh (zu (zu (zu kS)))) zl ?_;exact ⟨⟨v, vo, rfl, Sl.one hvo, ys, hys, hpk⟩, rfl⟩
theorem common1 {c : World} {h : GH} {L : Own} {p v : Value} {n : Nat} {gs : List GrE} (hp : At h p [v]) (hs : RGs h v gs):
 Fun Tryz.prog c 35 #[.int .i64 (n : Int), p] h L (fun u _ L' => u = .bool (decide (n = gs.length)) ∧ L = L') := by
 refine kF (N := 8) (args := [.int .i64 (n : Int), p]) Tryz.func35 ?_;refine qo ae ?_;refine qg (qd (qo ae ?_));refine qg (qg (ql sc_34 aa ?_));refine qg (qm sl_34 hs.sl ?_);refine qg (eqlB (fun c7 => ?_) (fun c7 => ?_))
 ·
  refine qg (qd ?_);refine ze rfl ?_;rw [decide_eq_true (show n = gs.length by omega)]; exact ⟨rfl, rfl⟩
 ·
  refine qg (qd ?_);refine ze rfl ?_;rw [decide_eq_false (show ¬ n = gs.length by omega)]; exact ⟨rfl, rfl⟩
theorem conv_common {c : World} {h : GH} {L : Own} {v : Value} {gs : List GrE} (hg : GK h) (hs : RGs h v gs) (hG : ∀ g ∈ gs, GOk (fst1 g.xs)) (h5 : gs.length ≤ 5) (hA : Apt (allOps gs)):
 Fun Tryz.prog c 9 #[v] h L (fun u h' L' => (∃ iv ov, u = .tuple #[.agg #[iv, ov], .int .i64 0] ∧ oneCell ov = true ∧ ∃ ids, RIds h' iv ids ∧ PickOf (idsG gs) (fun n => decide (n = gs.length)) ids) ∧ L = L') := by
 refine kF (N := 14) (args := [v]) Tryz.func9 ?_;refine qo ae ?_;refine qg (box_at (Sl.cells hs.sl) ?_);intro p1 h1x le1x hp1;replace hg := hg.mono le1x; replace hs := hs.mono le1x;refine qg (qa zc_25 ?_);intro b2;refine qg (qd (qo ae ?_));refine qg (ql sc_34 aa ?_);refine qg (qc (conv_check hg hs hG h5 hA) ?_);rintro v6 h2 L_ le1 ⟨rfl, rfl⟩;replace hs := hs.mono le1; replace hp1 := hp1.mono le1;refine qg (qd (qo ae ?_));refine qg (qg (neqB (fun c8 => ?_) (fun c8 => ?_)))
 ·
  omega
 ·
  refine qd (qo ae ?_);refine qg (ql sc_34 aa ?_);refine qg (qg (qc (conv_picked (caps := [p1]) (en := fun n => decide (n = gs.length)) hs hG h5 (fun n h1 L0 hle => common1 (hp1.mono hle) (hs.mono hle))) ?_));rintro v13 h4 L_ le3 ⟨⟨iv, ov, rfl, hov, ids, hids, hpk⟩, rfl⟩;refine qg (kB (l' := [iv, ov]) si_25 ac ai (show ([iv, ov] : List Value).all oneCell = true by simp [Sl.one hids, hov]) kR ab rfl kR.symm ?_);refine qg (qd ?_);refine DoRet.r2 (.cell rfl (qx (r := [iv, ov]) ag_25 kH ab rfl rfl)) (.tmp rfl) (qh (zu kS)) zl ?_;exact ⟨⟨iv, ov, rfl, hov, ids, hids, hpk⟩, rfl⟩
end Go.Brd
namespace Go.Brd
open Go Go.Brd Go.Proofs
set_option linter.unusedVariables false
theorem ag_37 : aggN Tryz.prog 37 1 = true := by kernel_rfl
theorem fi_37_0 : fieldIs Tryz.prog 37 0 0 = true := by kernel_rfl
theorem ia_tag : isAggT Tryz.prog 97 = true := by kernel_rfl
theorem ks_tag : shp Tryz.prog 20 97 = some (.s :: List.replicate 32 (.i .u8)) := by kernel_rfl
theorem pl_97 : placesOf Tryz.prog 97 = some [(0, 1), (1, 32)] := by kernel_rfl
theorem sc_35 : scalar Tryz.prog 35 = true := by kernel_rfl
theorem si_35 : sizeIs Tryz.prog 35 1 = true := by kernel_rfl
theorem si_37 : sizeIs Tryz.prog 37 1 = true := by kernel_rfl
theorem si_97 : sizeIs Tryz.prog 97 33 = true := by kernel_rfl
theorem sl_35 : sliceOf Tryz.prog 35 97 33 = true := by kernel_rfl
theorem un_136 : Tryz.prog.underlying 136 = some (.map 97 4) := by kernel_rfl
theorem z_97 : zeroIs Tryz.prog 97 33 = true := by kernel_rfl
theorem zc_37 : zeroC Tryz.prog 37 = some ([.slice none 0 0]) := by kernel_rfl
theorem zc_97 : zeroC Tryz.prog 97 = some ([.string ⟨#[]⟩] ++ List.replicate 32 (.int .u8 0)) := by kernel_rfl
theorem zvb_4 : zeroV Tryz.prog 4 = some (.bool false) := by kernel_rfl
theorem kt_tag : KeyT Tryz.prog 97 (.s :: List.replicate 32 (.i .u8)) tagC (fun t : Tag => t.2.length = 32) := ⟨ks_tag, ia_tag, fun x hx => by
 show fitsL (.s :: List.replicate 32 (.i .u8)) (.string x.1 :: idC x.2) = true;simp only [fitsL, Bool.and_eq_true]; exact ⟨rfl, fitsL_ids 32 x.2 hx⟩, fun x y _ _ h => by
 simp only [tagC, List.cons.injEq, Value.string.injEq] at h;exact Prod.ext h.1 (idC_inj h.2)⟩
theorem tag_fill (s : ByteArray) {x : ID} (hx : x.length = 32) : fillL (fun i => ([(0, 1), (1, 32)] : List (Nat × Nat))[i]?) ([.string ⟨#[]⟩] ++ List.replicate 32 (.int .u8 0)) [(0, [.string s]), (1, idC x)] = some (tagC (s, x)) := by
 have hl : (idC x).length = 32 := by rw [idC_length, hx]
 unfold fillL;simp only [List.getElem?_cons_zero, List.length_singleton, List.length_append, List.length_replicate];rw [if_pos (by rfl)];unfold fillL;simp only [List.getElem?_cons_succ, List.getElem?_cons_zero];rw [if_pos (by rw [hl, over_length]; rfl)];unfold fillL;have e1 : over ([.string ⟨#[]⟩] ++ List.replicate 32 (Value.int .u8 0)) 0 [.string s] = [.string s] ++ List.replicate 32 (Value.int .u8 0) := rfl;rw [e1, over_tail (n := 1) (by rw [hl, List.length_replicate]) rfl]; rfl
theorem dn_ids {l : List Op} (hG : GOk l) {q y : ID} (h : Dn l q y) (hq : q ∈ l.map idOf) : y ∈ l.map idOf := by
 induction h with
 | refl => exact hq
 | step ho hp _ ih => exact ih (hG.closed _ ho _ hp)
theorem AncOf.iff {l : List Op} (hG : GOk l) {o : Op} (ho : o ∈ l) {an : List ID} (h : AncOf l o an) (y : ID) : y ∈ an ↔ ∃ q ∈ o.preds, Dn l q y := by
 constructor
 · intro hy; exact (h.mem y (h.sub.subset hy)).1 hy
 · rintro ⟨q, hq, hd⟩; exact (h.mem y (dn_ids hG hd (hG.closed _ ho _ hq))).2 ⟨q, hq, hd⟩
def Gone (l : List Op) (rs : List Op) (t : Tag) : Prop := ∃ r ∈ rs, r.act.kind = 3 ∧ r.act.key = t.1 ∧ ∃ q ∈ r.preds, Dn l q t.2
def IsTag (l : List Op) (t : Tag) : Prop := ∃ o ∈ l, o.act.kind = 2 ∧ t = (o.act.key, idOf o) ∧ ¬ Gone l l t
structure TagsOf (l : List Op) (T : List Tag) : Prop where
 ris : T.Pairwise fun a b => tcmp a b < 0
 mem : ∀ t, t ∈ T ↔ IsTag l t
theorem gone_skip {l rs : List Op} {k : Nat} {o : Op} (ho : rs[k]? = some o) (hk : o.act.kind ≠ 3) {t : Tag} : Gone l (rs.take (k + 1)) t ↔ Gone l (rs.take k) t := by
 rw [takeS ho];constructor
 · rintro ⟨r, hr, h1, h2⟩
   rcases List.mem_append.1 hr with hr | hr
   · exact ⟨r, hr, h1, h2⟩
   · have : r = o := by simpa using hr
     subst this; exact absurd h1 hk
 · rintro ⟨r, hr, h⟩; exact ⟨r, List.mem_append_left _ hr, h⟩
theorem gone_snoc {l rs : List Op} (hG : GOk l) {k : Nat} {o : Op} (ho : rs[k]? = some o) (hol : o ∈ l) (hk : o.act.kind = 3) {an : List ID} (ha : AncOf l o an) {t : Tag} : Gone l (rs.take (k + 1)) t ↔ Gone l (rs.take k) t ∨ (t.1 = o.act.key ∧ t.2 ∈ an) := by
 rw [takeS ho, ha.iff hG hol];constructor
 · rintro ⟨r, hr, h1, h2, h3⟩
   rcases List.mem_append.1 hr with hr | hr
   · exact .inl ⟨r, hr, h1, h2, h3⟩
   · have : r = o := by simpa using hr
     subst this; exact .inr ⟨h2.symm, h3⟩
 · rintro (⟨r, hr, h⟩ | ⟨h1, h2⟩)
   · exact ⟨r, List.mem_append_left _ hr, h⟩
   · exact ⟨o, by simp, hk, h1.symm, h2⟩
def GoneM (m : List (Tag × Unit)) (G : Tag → Prop) : Prop := (∀ p ∈ m, p.1.2.length = 32) ∧ ∀ t, t ∈ m.map Prod.fst ↔ G t
theorem GoneM.congr {m : List (Tag × Unit)} {G G' : Tag → Prop} (h : GoneM m G) (e : ∀ t, G t ↔ G' t) : GoneM m G' := ⟨h.1, fun t => (h.2 t).trans (e t)⟩
theorem GoneM.set {m : List (Tag × Unit)} {G : Tag → Prop} (h : GoneM m G) {t0 : Tag} (h32 : t0.2.length = 32) : GoneM (mset t0 () m) (fun t => G t ∨ t = t0) := by
 refine ⟨fun p hp => ?_, fun t => ?_⟩
 · rcases mem_mset hp with rfl | hp
   · exact h32
   · exact h.1 p hp
 · rw [mset_keys]
   split
   · rename_i hm
     rw [h.2 t];exact ⟨.inl, fun e => e.elim id fun e => by rw [e]; exact (h.2 t0).1 hm⟩
   · rw [List.mem_append, h.2 t, List.mem_singleton]
theorem key_snoc {G : Tag → Prop} {m : List (Tag × Unit)} {an : List ID} {j : Nat} {q : ID} {key : ByteArray} (hq : an[j]? = some q) (h : GoneM m (fun t => (G t ∨ (t.1 = key ∧ t.2 ∈ an.take j)) ∨ t = (key, q))) : GoneM m (fun t => G t ∨ (t.1 = key ∧ t.2 ∈ an.take (j + 1))) :=
 h.congr fun t => by
  rw [takeS hq, List.mem_append, List.mem_singleton];constructor
  · rintro ((h | ⟨h1, h2⟩) | h)
    · exact .inl h
    · exact .inr ⟨h1, .inl h2⟩
    · rw [h]; exact .inr ⟨rfl, .inr rfl⟩
  · rintro (h | ⟨h1, h2 | h2⟩)
    · exact .inl (.inl h)
    · exact .inl (.inr ⟨h1, h2⟩)
    · exact .inr (Prod.ext h1 h2)
def hasK (m : List (Tag × Unit)) (t : Tag) : Bool := (mget t m 0).isSome
theorem hasK_iff {m : List (Tag × Unit)} {t : Tag} : hasK m t = true ↔ t ∈ m.map Prod.fst := by
 unfold hasK;cases h : mget t m 0 with
 | none => simp only [Option.isSome_none, Bool.false_eq_true, false_iff]; exact mget_none.1 h
 | some p => simp only [Option.isSome_some, true_iff]; exact List.mem_map.2 ⟨_, mget_mem h, rfl⟩
def tagsL (G : Tag → Bool) (l : List Op) : List Tag := (l.filter fun o => decide (o.act.kind = 2) && !G (o.act.key, idOf o)).map fun o => (o.act.key, idOf o)
theorem tagsL_snoc {G : Tag → Bool} {l : List Op} {k : Nat} {o : Op} (ho : l[k]? = some o) : tagsL G (l.take (k + 1)) = tagsL G (l.take k) ++ (if decide (o.act.kind = 2) && !G (o.act.key, idOf o) then [(o.act.key, idOf o)] else []) := by
 unfold tagsL;rw [takeS ho, List.filter_append, List.map_append];congr 1
 simp only [List.filter_cons, List.filter_nil];split <;> simp
theorem tagsL_len (G : Tag → Bool) (l : List Op) : (tagsL G l).length ≤ l.length := by unfold tagsL; rw [List.length_map]; exact List.length_filter_le _ _
theorem tagsL_32 {G : Tag → Bool} {l : List Op} : ∀ t ∈ tagsL G l, t.2.length = 32 := fun t ht => by
 unfold tagsL at ht;obtain ⟨o, _, rfl⟩ := List.mem_map.1 ht;exact idOf_len o
theorem strict_of {α : Type} {cf : α → α → Int} (flip : ∀ x y, cf y x = - cf x y) (zero : ∀ x y, cf x y = 0 → x = y) {T : List α} (hn : T.Nodup) (h : T.Pairwise fun a b => ¬ cf b a < 0) : T.Pairwise fun a b => cf a b < 0 :=
 (h.and hn).imp fun {a b} ⟨h1, h2⟩ => by
  have := flip a b;have h3 : cf a b ≠ 0 := fun e => h2 (zero a b e)
  omega
theorem tagsOf_sorted {l : List Op} (hG : GOk l) {G : Tag → Bool} (hg : ∀ t, G t = true ↔ Gone l l t) {T : List Tag} (hp : T.Perm (tagsL G l)) (hs : T.Pairwise fun a b => ¬ tcmp b a < 0) : TagsOf l T := by
 have hnd : (tagsL G l).Nodup := by
  have h1 : ((tagsL G l).map Prod.snd).Nodup := by
   have e : (tagsL G l).map Prod.snd = (l.filter fun o => decide (o.act.kind = 2) && !G (o.act.key, idOf o)).map idOf := by unfold tagsL; rw [List.map_map]; rfl
   rw [e];exact (List.filter_sublist.map idOf).nodup hG.nodup
  exact List.Pairwise.of_map Prod.snd (fun a b h e => h (by rw [e])) h1
 refine ⟨strict_of tcmp_flip (fun x y => tcmp_zero.1) (hp.nodup_iff.2 hnd) hs, fun t => ?_⟩;rw [hp.mem_iff];unfold tagsL IsTag;simp only [List.mem_map, List.mem_filter, Bool.and_eq_true, decide_eq_true_eq, Bool.not_eq_true'];constructor
 · rintro ⟨o, ⟨h1, h2, h3⟩, rfl⟩
   exact ⟨o, h1, h2, rfl, fun e => by rw [(hg _).2 e] at h3; cases h3⟩
 · rintro ⟨o, h1, h2, rfl, h3⟩
   refine ⟨o, ⟨h1, h2, ?_⟩, rfl⟩;cases h4 : G (o.act.key, idOf o) with
   | false => rfl
   | true => exact absurd ((hg _).1 h4) h3
theorem orset_of {c : World} {h : GH} {L : Own} {iv ov : Value} {xs : List (Op × Value)} (hg : GK h) (hi : RIds h iv ((fst1 xs).map idOf)) (ho : ROps h ov xs) (hG : GOk (fst1 xs)):
 Fun Tryz.prog c 36 #[gV iv ov] h L (fun u h' L' => (∃ z T, u = .tuple #[.agg #[z], .int .i64 0] ∧ Sl h' z 33 (T.map tagC) ∧ TagsOf (fst1 xs) T ∧ T.length ≤ 60) ∧ L = L') := by
 have h32 := hi.len32;have hfl := fst1_len xs;have h60 : xs.length ≤ 60 := by have := hG.small; omega
 refine kF (N := 97) (args := [gV iv ov]) Tryz.func36 ?_;refine qo ae ?_;refine qg (box_at rfl ?_);intro p1 h2 le1 hp1;replace hg := hg.mono le1; replace hi := hi.mono le1; replace ho := ho.mono le1;refine qg (qa zc_37 ?_);intro b2;refine qg (qd (qo ae ?_));refine qg (qX ag_25 aa ag ?_);refine qg (qc (dag_check hg hi ho hG) ?_);rintro v17 h4 L_ le3 ⟨rfl, rfl⟩;replace hg := hg.mono le3; replace hi := hi.mono le3; replace ho := ho.mono le3; replace hp1 := hp1.mono le3;refine qg (qd (qo ae ?_));refine qg (qg (neqB (fun c19 => ?_) (fun c19 => ?_)))
 ·
  omega
 ·
  refine qd (qo ae ?_);refine qg (make_map ?_);intro b22;refine qg (qd (qo ae ?_));refine qg (qf fi_25_1 aa ?_);intro p23 hp23;refine qg (ql sc_23 aa ?_);refine qg (qm sl_23 ho.sl ?_);refine qg (qd ?_);refine qL (fun s0 nn s' h' L' => ∃ (k : Nat) (m : List (Tag × Unit)), s' = [(26, .int .i64 k)] ++ qR s0 [1, 2, 5, 24, 25] ∧ nn = xs.length - k ∧ (b22, mapO (mapA tagC (fun _ : Unit => Value.bool true) m)) :: (b2, .cells [.slice none 0 0].toArray 37 (0, 0)) :: L = L' ∧ k ≤ xs.length ∧ GoneM m (Gone (fst1 xs) ((fst1 xs).take k))) ⟨0, [], rfl, rfl, rfl, ?_⟩ zg zl zn ?_
  · exact ⟨Nat.zero_le _, fun p hp => absurd hp am, fun t => ⟨fun h => absurd h am, fun ⟨r, hr, _⟩ => absurd hr am⟩⟩
  rintro nn s1 h5 L_ le6 ⟨k, m, rfl, rfl, rfl, hk, hm⟩;replace hg := hg.mono le6; replace hi := hi.mono le6; replace ho := ho.mono le6; replace hp1 := hp1.mono le6;refine qo ae ?_;refine qg (lssB (fun c27 => ?_) (fun c27 => ?_))
  ·
   have hkl : k < xs.length := by omega
   obtain ⟨y, hy⟩ := qE hkl;have hry := ho.each y (List.mem_of_getElem? hy);have hyo := fst1_mem hy;have hrp : RIds _ y.2 y.1.preds := hry.preds;refine qd (qo ae ?_);refine qg (qg (qi (k := k) sl_23 ho.sl rfl hy ?_));intro p29 r29 hl29 hp29;refine qg (qP ag_61 hp29 rfl ?_);refine qg (qa zc_61 ?_);intro b7;refine qg (qg (kB (l' := opC y) si_61 ac ai (opC_one2 (Sl.one hry.preds)) kR ab rfl kR.symm ?_));refine qd (qo ae ?_);refine qg (qw fi_61_3 ?_);refine qg (qw fi_57_0 ?_);refine qg (qO (v := .int .u8 (y.1.act.kind : Int)) sc_5 kH rfl ?_);refine qg (neqB (fun c34 => ?_) (fun c34 => ?_))
   ·
    refine qd (qo ae ?_);refine qg (qA ak ?_);refine qg (qd ?_);exact back (m := _) ⟨k + 1, m, rfl, rfl, rfl, by omega, hm.congr fun t => (gone_skip (fst1_at hy) af).symm⟩ af (qh (zu (zv (zv kS)))) zl zn
   ·
    refine qd ?_;refine qD mixed [] [0, 1, 2, 3, 4, 5, 6, 7, 8, 9, 10, 11] [] ae sub_nil ?_;refine qr rfl rfl rfl (qX ag_25 aa ag ?_);refine qr rfl rfl rfl (qf fi_25_0 aa ?_);intro p37 hp37;refine qr rfl rfl rfl (ql sc_22 aa ?_);refine qr rfl rfl rfl (qr rfl rfl rfl (qi (k := k) sl_22 hi rfl (map_get (fst1_at hy)) ?_));intro p40 r40 hl40 hp40;refine qr rfl rfl rfl (qP ag_74 aa aa ?_);refine qj rfl rfl rfl ?_;refine qc (anc_ancestors hg hi ho hG (o := y.1) hyo) ?_;rintro v42 h8 L_ le7 ⟨N42, rfl, z42, an, rfl, hz42, han⟩;have hal : an.length ≤ 60 := by have h1 := han.sub.length_le; rw [List.length_map] at h1; have h2 := hG.small; omega
    have h32a : ∀ z ∈ an, z.length = 32 := fun z hz => h32 z (han.sub.subset hz)
    refine ⟨am, ?_⟩;refine qr rfl rfl rfl (qr rfl rfl rfl (qr rfl rfl rfl (qr rfl rfl rfl (qr rfl rfl rfl (qe zf ?_)))));refine qo ae ?_;refine qg (qg (len_os sl_22 hz42 ?_));refine qg (qd ?_);refine qL (fun s0 nn s' h' L' => ∃ (j : Nat) (m2 : List (Tag × Unit)), s' = [(47, .int .i64 j)] ++ qR s0 [1, 2, 5, 7, 24, 25, 26, 45, 46] ∧ nn = an.length - j ∧ N42 ++ ((b7, .cells (opC y).toArray 61 (0, 0)) :: (b22, mapO (mapA tagC (fun _ : Unit => Value.bool true) m2)) :: (b2, .cells [.slice none 0 0].toArray 37 (0, 0)) :: L) = L' ∧ j ≤ an.length ∧ GoneM m2 (fun t => Gone (fst1 xs) ((fst1 xs).take k) t ∨ (t.1 = y.1.act.key ∧ t.2 ∈ an.take j))) ⟨0, m, rfl, rfl, rfl, ?_⟩ zg zl zn ?_
    · exact ⟨Nat.zero_le _, hm.congr fun t => by simp⟩
    rintro nn s1 h9 L_ le10 ⟨j, m2, rfl, rfl, rfl, hj, hm2⟩;refine qo ae ?_;refine qg (lssB (fun c48 => ?_) (fun c48 => ?_))
    ·
     rw [List.length_map] at c48;have hjl : j < an.length := by omega
     obtain ⟨q, hq⟩ := qE hjl;have hq32 := h32a q (List.mem_of_getElem? hq);have hcl : (idC q).length = 32 := by rw [idC_length, hq32]
     refine qd (qo ae ?_);refine qg (index_os (k := j) sl_22 aa rfl (by rw [List.length_map]; exact hjl) ?_);intro p49 hp49;refine qg (load_osX (r := idC q) ag_74 aa aa (fun e he => (List.mem_append_left _ he)) (map_get hq) (by rw [hcl]; decide) (by rw [List.drop_zero, List.take_of_length_le (by rw [hcl]; decide)]) ?_);refine qg (qa zc_74 ?_);intro b11;refine qg (kB (l' := idC q) si_74 ac hcl (idC_one _) kR ab (over_all (by rw [hcl, List.length_replicate])) kR.symm ?_);refine qd (qo ae ?_);refine qg (qg (qw fi_61_3 ?_));refine qg (qw fi_57_1 ?_);refine qg (qO (v := .string y.1.act.key) sc_9 (kT (zq kH)) rfl ?_);refine qg (qx (r := idC q) ag_74 kH (by rw [hcl]; decide) (by rw [List.drop_zero, List.take_of_length_le (by rw [hcl]; decide)]) ?_);refine qg (build_struct zc_97 pl_97 (qy ac (qy ac Parts.nil)) (tag_fill _ hq32) ?_);refine qg (map_updateA (k := (y.1.act.key, q)) (v := ()) un_136 kt_tag hq32 hm2.1 rfl ((zc ((za ((zc kR).trans zw)).trans zm)).trans zw) ((zc ((za ((zc kR).trans zw)).trans zm)).trans zw).symm ?_);refine qd (qo ae ?_);refine qg (qA ak ?_);refine qg (qd ?_);exact back (m := _) ⟨j + 1, mset (y.1.act.key, q) () m2, rfl, rfl, rfl, by omega, key_snoc hq (hm2.set hq32)⟩ af (qh (zu (List.Sublist.append_left (zv (zv (zv kS))) _))) zl zn
    ·
     rw [List.length_map] at c48;have hje : j = an.length := by omega
     rw [hje, List.take_length] at hm2;have hm3 : GoneM m2 (Gone (fst1 xs) ((fst1 xs).take (k + 1))) := hm2.congr fun t => (gone_snoc hG (fst1_at hy) hyo af han).symm
     refine qd (qo ae ?_);refine qg (qA ak ?_);refine qg (qd ?_);exact back (m := _) ⟨k + 1, m2, rfl, rfl, rfl, by omega, hm3⟩ af (qh (List.Sublist.trans (zu (zv (zv kS))) (List.sublist_append_right _ _))) zl zn
  ·
   have hke : k = xs.length := by omega
   rw [hke, List.take_of_length_le af] at hm;have hgd : ∀ t, (hasK m) t = true ↔ Gone (fst1 xs) (fst1 xs) t := fun t => by rw [hasK_iff]; exact hm.2 t
   refine qd (qo ae ?_);refine qg (qa zc_37 ?_);intro b12;refine qd ?_;refine DoRg.freezeBox ((zc kR).trans zw) ?_;intro h11 le12 hfz;replace hi := hi.mono le12; replace ho := ho.mono le12; replace hp1 := hp1.mono le12;have hfm : Fz _ b22 (mapO (mapA tagC (fun _ : Unit => Value.bool true) m)) := hfz;refine qo ae ?_;refine qg (qf fi_25_1 aa ?_);intro p59 hp59;refine qg (ql sc_23 aa ?_);refine qg (qm sl_23 ho.sl ?_);refine qg (qd ?_);refine qL (fun s0 nn s' h' L' => ∃ (k2 : Nat) (v : Value) (N : Own), s' = [(62, .int .i64 k2)] ++ qR s0 [1, 2, 5, 12, 60, 61] ∧ nn = xs.length - k2 ∧ N ++ ((b12, .cells [v].toArray 37 (0, 0)) :: (b2, .cells [.slice none 0 0].toArray 37 (0, 0)) :: L) = L' ∧ k2 ≤ xs.length ∧ OS 97 33 v ((tagsL (hasK m) ((fst1 xs).take k2)).map tagC) N) ⟨0, _, [], rfl, rfl, rfl, ?_⟩ zg zl zn ?_
   · exact ⟨Nat.zero_le _, by rw [List.take_zero]; exact OS.nil _ _⟩
   rintro nn s1 h13 L_ le14 ⟨k2, v, N, rfl, rfl, rfl, hk2, hv⟩;replace hi := hi.mono le14; replace ho := ho.mono le14; replace hp1 := hp1.mono le14; replace hfm := hfm.mono le14;refine qo ae ?_;refine qg (lssB (fun c63 => ?_) (fun c63 => ?_))
   ·
    have hkl : k2 < xs.length := by omega
    obtain ⟨y, hy⟩ := qE hkl;have hry := ho.each y (List.mem_of_getElem? hy);have hyo := fst1_mem hy;have hts := tagsL_snoc (G := (hasK m)) (fst1_at hy);have htl := tagsL_len (hasK m) ((fst1 xs).take k2);rw [List.length_take] at htl;have h32t : (idOf y.1).length = 32 := idOf_len _;have hT : (tagC (y.1.act.key, idOf y.1)).length = 33 := by rw [tagC_length, h32t]
    refine qd (qo ae ?_);refine qg (qg (qi (k := k2) sl_23 ho.sl rfl hy ?_));intro p65 r65 hl65 hp65;refine qg (qP ag_61 hp65 rfl ?_);refine qg (qa zc_61 ?_);intro b14;refine qg (qg (kB (l' := opC y) si_61 ac ai (opC_one2 (Sl.one hry.preds)) kR ab rfl kR.symm ?_));refine qd ?_;refine DoDraw.cutP (fun s0 s' h' L' => ∃ (b15 : Nat), s' = [(15, .pointer (some ⟨b15, 0, none⟩))] ++ qR s0 [1, 2, 5, 12, 14, 60, 61, 62] ∧ L'.Perm ((b15, .cells (tagC (y.1.act.key, idOf y.1)).toArray 97 (0, 0)) :: (b14, .cells (opC y).toArray 61 (0, 0)) :: (N ++ ((b12, .cells [v].toArray 37 (0, 0)) :: (b2, .cells [.slice none 0 0].toArray 37 (0, 0)) :: L))) ∧ True) ?_ ?_
    ·
     refine DoDraw.intros mixed [0, 1, 2, 3, 4, 5, 6, 7, 8, 9, 10] [[0, 1, 2, 3, 4, 5, 6, 7, 9, 8, 10]] (_ :: []) ae (qq kH sub_nil) (fcons ?_ (fcons ?_ fnil))
     ·
      refine qw fi_61_3 ?_;refine qw fi_57_1 ?_;refine qO (v := .string y.1.act.key) sc_9 kH rfl ?_;refine qf fi_25_0 aa ?_;intro p70 hp70;refine ql sc_22 aa ?_;refine qi (k := k2) sl_22 hi rfl (map_get (fst1_at hy)) ?_;intro p73 r73 hl73 hp73;refine qP ag_74 aa aa ?_;refine build_struct zc_97 pl_97 (qy ac (qy ac Parts.nil)) (tag_fill _ h32t) ?_;refine ⟨(qq kH sub_nil), ?_⟩;refine qa zc_97 ?_;intro b15;refine ⟨(qq (kT kH) sub_nil), ?_⟩;refine kB (l' := tagC (y.1.act.key, idOf y.1)) si_97 ac hT (tagC_all _) kR ab (over_all (by rw [hT]; rfl)) kR.symm ?_;refine ⟨(qq (kT kH) sub_nil), ?_⟩;exact ⟨_, zn, _, rfl, (kR.trans (zc (kR.trans (zc (kR.trans (za (kR.trans (zc (kR.trans (zc kR)))))))))), trivial⟩
     ·
      refine qw fi_61_3 ?_;refine qw fi_57_1 ?_;refine qO (v := .string y.1.act.key) sc_9 kH rfl ?_;refine qf fi_25_0 aa ?_;intro p70 hp70;refine ql sc_22 aa ?_;refine qi (k := k2) sl_22 hi rfl (map_get (fst1_at hy)) ?_;intro p73 r73 hl73 hp73;refine qP ag_74 aa aa ?_;refine qa zc_97 ?_;intro b15;refine ⟨(qq (kT kH) sub_nil), ?_⟩;refine build_struct zc_97 pl_97 (qy ac (qy ac Parts.nil)) (tag_fill _ h32t) ?_;refine ⟨(qq (kT kH) sub_nil), ?_⟩;refine kB (l' := tagC (y.1.act.key, idOf y.1)) si_97 ac hT (tagC_all _) kR ab (over_all (by rw [hT]; rfl)) kR.symm ?_;refine ⟨(qq (kT kH) sub_nil), ?_⟩;exact ⟨_, zn, _, rfl, (kR.trans (zc (kR.trans (zc (kR.trans (za (kR.trans (zc (kR.trans (zc kR)))))))))), trivial⟩
    ·
     rintro s1 h15 L_ le16 ⟨b15, rfl, hpm, _⟩;refine ⟨_, hpm, ?_⟩;replace hfm := hfm.mono le16;refine qo ae ?_;refine qg (qw fi_61_3 ?_);refine qg (qw fi_57_0 ?_);refine qg (qO (v := .int .u8 (y.1.act.kind : Int)) sc_5 (kT kH) rfl ?_);refine qg (eqlB (fun c79 => ?_) (fun c79 => ?_))
     ·
      refine qg (qT rfl rfl ?_);refine qT rfl rfl ?_;refine qx (r := tagC (y.1.act.key, idOf y.1)) ag_97 kH (by rw [hT]; exact Nat.le_refl _) (by show List.take 33 (tagC _) = _; rw [← hT, List.take_length]) ?_;refine qT rfl rfl ?_;refine lookup_mapA (k := (y.1.act.key, idOf y.1)) un_136 kt_tag h32t hm.1 zvb_4 (.inl hfm) (fun iz z hget => ?_) (fun hget => ?_)
      ·
       have hin : hasK m (y.1.act.key, idOf y.1) = true := hasK_iff.2 (List.mem_map.2 ⟨_, mget_mem hget, rfl⟩);refine qT rfl rfl ?_;refine not_tt ?_;refine qg (qd (qo ae ?_));refine qg (qA ak ?_);refine qg (qd ?_);exact back (m := _) ⟨k2 + 1, v, N, rfl, rfl, rfl, by omega, by rw [hts, hin, Bool.not_true, Bool.and_false]; simpa using hv⟩ af (qh (zu (zu (List.Sublist.append_left (zv (zv kS)) _)))) zl zn
      ·
       have hin : hasK m (y.1.act.key, idOf y.1) = false := by unfold hasK; rw [hget]; rfl
       refine qT rfl rfl ?_;refine not_ff ?_;refine qg (qd (qo ae ?_));refine qg (qw fi_37_0 ?_);refine qg (qO (v := v) sc_35 (kT (kT (zq kH))) rfl ?_);refine qg (qx (r := tagC (y.1.act.key, idOf y.1)) ag_97 kH (by rw [hT]; exact Nat.le_refl _) (by show List.take 33 (tagC _) = _; rw [← hT, List.take_length]) ?_);refine qg (qB sl_35 z_97 rfl ag ah (tagC_all _) ?_);intro v89 h18 le17 hv89;refine qg (qp sl_35 sl_35 z_97 aa aa ((zc ((zc kR).trans zm.symm)).trans zm.symm) (by rw [List.length_map]; simp; omega) ?_);intro v90 N90 hv90;refine ⟨_, ((zc ((zc kR).trans zm.symm)).trans zm.symm).symm, ?_⟩;refine qg (qw fi_37_0 ?_);refine qg (kB (l' := [v90]) si_35 ac ai ad ((zc ((zc ((za kR).trans zm)).trans zw)).trans zw) ab rfl ((zc ((zc ((za kR).trans zm)).trans zw)).trans zw).symm ?_);refine qd (qo ae ?_);refine qg (qA ak ?_);refine qg (qd ?_);exact back (m := _) ⟨k2 + 1, v90, N90, rfl, rfl, rfl, by omega, by rw [hts, hin, decide_eq_true (show y.1.act.kind = 2 by omega), List.map_append]; exact hv90⟩ af (qh (zu (zu (List.Sublist.append_left (zv (zv kS)) _)))) zl zn
     ·
      refine qg (DoOps.skipT rfl rfl ?_);refine DoOps.skipT rfl rfl ?_;refine DoOps.skipT rfl rfl ?_;refine DoOps.skipT rfl rfl ?_;refine qg (qd (qo ae ?_));refine qg (qA ak ?_);refine qg (qd ?_);exact back (m := _) ⟨k2 + 1, v, N, rfl, rfl, rfl, by omega, by rw [hts, decide_eq_false (show ¬ y.1.act.kind = 2 by omega), Bool.false_and]; simpa using hv⟩ af (qh (zu (zu (List.Sublist.append_left (zv (zv kS)) _)))) zl zn
   ·
    have hke : k2 = xs.length := by omega
    rw [hke, List.take_of_length_le af] at hv;have htl := tagsL_len (hasK m) (fst1 xs);refine qd (qo ae ?_);refine qg (qw fi_37_0 ?_);refine qg (qO (v := v) sc_35 (zq kH) rfl ?_);refine qg (qG kR (sort_tags_orset tagsL_32 hv af) ?_);rintro v95 h20 N95 le19 ⟨T, hTp, hTs, hT⟩;refine ⟨_, kR.symm, ?_⟩;have hTO := tagsOf_sorted hG hgd hTp hTs;have hTl : T.length ≤ 60 := by rw [hTp.length_eq]; omega
    refine qd (qo ae ?_);refine qg (qx (r := [v]) ag_37 (zq kH) ab rfl ?_);refine qg (kB (l' := [v]) si_37 ac ai (show ([v] : List Value).all oneCell = true by simp [OS.one hT]) ((za ((zc kR).trans zw)).trans zm) ab rfl ((za ((zc kR).trans zw)).trans zm).symm ?_);refine qg (qd ?_);refine DoRet.freeze hT al kR ?_;intro h21 le22 hT;refine DoRet.r2 (.cell rfl (qx (r := [v]) ag_37 (kT kH) ab rfl rfl)) (.tmp rfl) (qh (zu (zu kS))) zl ?_;exact ⟨⟨v, T, rfl, hT, hTO, hTl⟩, rfl⟩
end Go.Brd
namespace Go.Brd
open Go Go.Brd Go.Proofs
set_option linter.unusedVariables false
theorem fi_102_2 : fieldIs Tryz.prog 102 2 5 = true := by kernel_rfl
theorem fi_102_3 : fieldIs Tryz.prog 102 3 6 = true := by kernel_rfl
def scmp (a b : Nat) : Int := if a < b then -1 else if b < a then 1 else 0
theorem scmp_flip (a b : Nat) : scmp b a = - scmp a b := by unfold scmp; split <;> split <;> omega
theorem scmp_zero {a b : Nat} : scmp a b = 0 ↔ a = b := by unfold scmp; split <;> (try split) <;> omega
theorem scmp_trans {a b c : Nat} (h1 : scmp a b < 0) (h2 : scmp b c < 0) : scmp a c < 0 := by
 unfold scmp at *;split at h1
 · split at h2
   · rw [if_pos af]; omega
   · split at h2 <;> omega
 · split at h1 <;> omega
def rcmp (a b : Reg) : Int := if scmp a.stamp b.stamp = 0 then Lib.compareBytes a.id b.id else scmp a.stamp b.stamp
theorem rcmp_flip (a b : Reg) : rcmp b a = - rcmp a b := by
 unfold rcmp;have := scmp_flip a.stamp b.stamp;by_cases h : scmp a.stamp b.stamp = 0
 · rw [if_pos h, if_pos af]; exact cmp_flip _ _
 · rw [if_neg h, if_neg af]; exact this
theorem rcmp_id {a b : Reg} (h : rcmp a b = 0) : a.id = b.id := by
 unfold rcmp at h;split at h
 · exact cmp_id_iff.1 h
 · rename_i h1; exact absurd h h1
theorem rcmp_trans {x y z : Reg} (h1 : rcmp x y < 0) (h2 : rcmp y z < 0) : rcmp x z < 0 := by
 unfold rcmp at *;split at h1 <;> split at h2
 · rename_i e1 e2; rw [scmp_zero.1 e1, scmp_zero.1 e2, if_pos (scmp_zero.2 rfl)]; exact cmp_trans h1 h2
 · rename_i e1 e2; rw [scmp_zero.1 e1, if_neg e2]; exact h2
 · rename_i e1 e2; rw [← scmp_zero.1 e2, if_neg e1]; exact h1
 · have := scmp_trans h1 h2; rw [if_neg af]; exact this
def putR (x : Reg) : List Reg → List Reg
 | [] => [x]
 | a :: r => if kcmp a.key x.key < 0 then a :: putR x r else if a.key = x.key then (if 0 < rcmp x a then x else a) :: r else x :: a :: r
abbrev RSort (R : List Reg) : Prop := R.Pairwise fun a b => kcmp a.key b.key < 0
theorem mem_putR {x : Reg} : ∀ {R : List Reg}, RSort R → ∀ r, r ∈ putR x R ↔ (r ∈ R ∧ r.key ≠ x.key) ∨ (r = x ∧ ∀ a ∈ R, a.key = x.key → 0 < rcmp x a) ∨ (r ∈ R ∧ r.key = x.key ∧ ¬ 0 < rcmp x r)
 | [], _, r => by simp [putR]
 | a :: R, hs, r => by
  have hs1 := List.pairwise_cons.1 hs;unfold putR;by_cases h1 : kcmp a.key x.key < 0
  · have hne : a.key ≠ x.key := fun e => by rw [kcmp_zero.2 e] at h1; omega
    rw [if_pos h1, List.mem_cons, mem_putR hs1.2 r];constructor
    · rintro (rfl | ⟨h, h2⟩ | ⟨h, h2⟩ | ⟨h, h2, h3⟩)
      · exact .inl ⟨by simp, hne⟩
      · exact .inl ⟨by simp [h], h2⟩
      · exact .inr (.inl ⟨h, fun b hb e => (List.mem_cons.1 hb).elim (fun e2 => absurd (e2 ▸ e) hne) (fun hb => h2 b hb e)⟩)
      · exact .inr (.inr ⟨by simp [h], h2, h3⟩)
    · rintro (⟨h, h2⟩ | ⟨h, h2⟩ | ⟨h, h2, h3⟩)
      · rcases List.mem_cons.1 h with h | h
        · exact .inl h
        · exact .inr (.inl ⟨h, h2⟩)
      · exact .inr (.inr (.inl ⟨h, fun b hb => h2 b (by simp [hb])⟩))
      · rcases List.mem_cons.1 h with h | h
        · exact absurd (h ▸ h2) hne
        · exact .inr (.inr (.inr ⟨h, h2, h3⟩))
  · rw [if_neg h1]
    have hlt : ∀ b ∈ R, a.key = x.key → b.key ≠ x.key := fun b hb e e2 => by
     have := hs1.1 b hb;rw [e, e2, kcmp_zero.2 rfl] at this; omega
    by_cases h2 : a.key = x.key
    · rw [if_pos h2]
      by_cases h3 : 0 < rcmp x a
      · rw [if_pos h3, List.mem_cons]
        constructor
        · rintro (rfl | h)
          · exact .inr (.inl ⟨rfl, fun b hb e => (List.mem_cons.1 hb).elim (fun e2 => by rw [e2]; exact h3) (fun hb => absurd e (hlt b hb h2))⟩)
          · exact .inl ⟨by simp [h], hlt r h h2⟩
        · rintro (⟨h, h4⟩ | ⟨h, _⟩ | ⟨h, h4, h5⟩)
          · rcases List.mem_cons.1 h with h | h
            · exact absurd (h ▸ h2) h4
            · exact .inr h
          · exact .inl h
          · rcases List.mem_cons.1 h with h | h
            · rw [h] at h5; exact absurd h3 h5
            · exact absurd h4 (hlt r h h2)
      · rw [if_neg h3, List.mem_cons]
        constructor
        · rintro (rfl | h)
          · exact .inr (.inr ⟨by simp, h2, h3⟩)
          · exact .inl ⟨by simp [h], hlt r h h2⟩
        · rintro (⟨h, h4⟩ | ⟨_, h4⟩ | ⟨h, h4, h5⟩)
          · exact h
          · exact absurd (h4 a am h2) h3
          · exact h
    · rw [if_neg h2]
      have hxa : kcmp x.key a.key < 0 := by
       have := kcmp_flip a.key x.key;have : kcmp a.key x.key ≠ 0 := fun e => h2 (kcmp_zero.1 e)
       omega
      have hno : ∀ b ∈ a :: R, b.key ≠ x.key := fun b hb e => by
       rcases List.mem_cons.1 hb with h | h
       · exact h2 (h ▸ e)
       · have := kcmp_trans hxa (hs1.1 b h)
         rw [e, kcmp_zero.2 rfl] at this; omega
      rw [List.mem_cons];constructor
      · rintro (rfl | h)
        · exact .inr (.inl ⟨rfl, fun b hb e => absurd e (hno b hb)⟩)
        · exact .inl ⟨h, hno r h⟩
      · rintro (⟨h, _⟩ | ⟨h, _⟩ | ⟨h, _⟩)
        · exact .inr h
        · exact .inl h
        · exact .inr h
theorem putR_sorted {x : Reg} : ∀ {R : List Reg}, RSort R → RSort (putR x R)
 | [], _ => by simp [putR]
 | a :: R, hs => by
  have hs1 := List.pairwise_cons.1 hs;unfold putR;by_cases h1 : kcmp a.key x.key < 0
  · rw [if_pos h1]
    refine List.pairwise_cons.2 ⟨fun b hb => ?_, putR_sorted hs1.2⟩;rcases (mem_putR hs1.2 b).1 hb with ⟨h, _⟩ | ⟨h, _⟩ | ⟨h, _, _⟩
    · exact hs1.1 b h
    · rw [h]; exact h1
    · exact hs1.1 b h
  · rw [if_neg h1]
    by_cases h2 : a.key = x.key
    · rw [if_pos h2]
      refine List.pairwise_cons.2 ⟨fun b hb => ?_, hs1.2⟩;split
      · rw [← h2]; exact hs1.1 b hb
      · exact hs1.1 b hb
    · rw [if_neg h2]
      have hxa : kcmp x.key a.key < 0 := by
       have := kcmp_flip a.key x.key;have : kcmp a.key x.key ≠ 0 := fun e => h2 (kcmp_zero.1 e)
       omega
      refine List.pairwise_cons.2 ⟨fun b hb => ?_, hs⟩;rcases List.mem_cons.1 hb with h | h
      · rw [h]; exact hxa
      · exact kcmp_trans hxa (hs1.1 b h)
theorem putR_len (x : Reg) : ∀ R : List Reg, (putR x R).length ≤ R.length + 1
 | [] => by simp [putR]
 | a :: R => by
  have := putR_len x R;unfold putR;split
  · simp; omega
  · split <;> simp
def regOf (o : Op) : Reg := ⟨o.act.key, o.act.val, o.stamp, idOf o⟩
def IsReg (l : List Op) (r : Reg) : Prop := ∃ o ∈ l, o.act.kind = 4 ∧ r = regOf o ∧ ∀ p ∈ l, p.act.kind = 4 → p.act.key = o.act.key → ¬ 0 < rcmp (regOf p) (regOf o)
structure RegsOf (l : List Op) (R : List Reg) : Prop where
 ris : RSort R
 mem : ∀ r, r ∈ R ↔ IsReg l r
 all : ∀ p ∈ l, p.act.kind = 4 → ∃ r ∈ R, r.key = p.act.key
def putO (o : Op) (R : List Reg) : List Reg := if o.act.kind = 4 then putR (regOf o) R else R
theorem RegsOf.nil : RegsOf [] [] := ⟨List.Pairwise.nil, fun r => ⟨fun h => by simp at h, fun ⟨o, ho, _⟩ => by simp at ho⟩, fun p hp => by simp at hp⟩
theorem RegsOf.put {l : List Op} {R : List Reg} (h : RegsOf l R) {o : Op} (hno : ∀ q ∈ l, idOf q ≠ idOf o) : RegsOf (l ++ [o]) (putO o R) := by
 unfold putO;by_cases hk : o.act.kind = 4
 · rw [if_pos hk]
   refine ⟨putR_sorted h.ris, fun r => ?_, fun p hp hpk => ?_⟩
   · rw [mem_putR h.ris]
     have hxk : (regOf o).key = o.act.key := rfl;constructor
     · rintro (⟨h1, h2⟩ | ⟨rfl, h2⟩ | ⟨h1, h2, h3⟩)
       · obtain ⟨q, hq, hqk, rfl, hmax⟩ := (h.mem r).1 h1
         refine ⟨q, by simp [hq], hqk, rfl, fun p hp hpk e => ?_⟩;rcases List.mem_append.1 hp with hp | hp
         · exact hmax p hp hpk e
         · have : p = o := by simpa using hp
           subst this; exact absurd e.symm h2
       · refine ⟨o, by simp, hk, rfl, fun p hp hpk e => ?_⟩
         rcases List.mem_append.1 hp with hp | hp
         · obtain ⟨a, ha, hak⟩ := h.all p hp hpk
           have h3 := h2 a ha (hak.trans e);obtain ⟨q, hq, hqk, rfl, hmax⟩ := (h.mem a).1 ha;have h4 := hmax p hp hpk hak.symm;intro h5;have f1 := rcmp_flip (regOf o) (regOf q);have f2 := rcmp_flip (regOf p) (regOf o);have f3 := rcmp_flip (regOf p) (regOf q);have := rcmp_trans (x := regOf q) (y := regOf o) (z := regOf p) af af;omega
         · have : p = o := by simpa using hp
           subst this;have := rcmp_flip (regOf p) (regOf p); omega
       · obtain ⟨q, hq, hqk, rfl, hmax⟩ := (h.mem r).1 h1
         refine ⟨q, by simp [hq], hqk, rfl, fun p hp hpk e => ?_⟩;rcases List.mem_append.1 hp with hp | hp
         · exact hmax p hp hpk e
         · have : p = o := by simpa using hp
           subst this; exact h3
     · rintro ⟨q, hq, hqk, rfl, hmax⟩
       rcases List.mem_append.1 hq with hq | hq
       · have hin : regOf q ∈ R := (h.mem _).2 ⟨q, hq, hqk, rfl, fun p hp => hmax p (by simp [hp])⟩
         by_cases e : (regOf q).key = (regOf o).key
         · exact .inr (.inr ⟨hin, e, hmax o am hk e.symm⟩)
         · exact .inl ⟨hin, e⟩
       · have : q = o := by simpa using hq
         subst this;refine .inr (.inl ⟨rfl, fun a ha e => ?_⟩);obtain ⟨p, hp, hpk, rfl, _⟩ := (h.mem a).1 ha;have h1 := hmax p (by simp [hp]) hpk e;have h2 : rcmp (regOf p) (regOf q) ≠ 0 := fun e0 => hno p hp (rcmp_id e0)
         have := rcmp_flip (regOf p) (regOf q); omega
   · have key : ∀ a ∈ R, ∃ r ∈ putR (regOf o) R, r.key = a.key := fun a ha => by
      by_cases e : a.key = (regOf o).key
      · by_cases e2 : 0 < rcmp (regOf o) a
        · refine ⟨regOf o, (mem_putR h.ris _).2 (.inr (.inl ⟨rfl, fun b hb eb => ?_⟩)), e.symm⟩
          have : a = b := by
           obtain ⟨i, hi, ei⟩ := List.getElem_of_mem ha;obtain ⟨j, hj, ej⟩ := List.getElem_of_mem hb;rcases Nat.lt_trichotomy i j with hij | hij | hij
           · have := List.pairwise_iff_getElem.1 h.ris i j hi hj hij
             rw [ei, ej, e, eb, kcmp_zero.2 rfl] at this; omega
           · subst hij; rw [← ei, ← ej]
           · have := List.pairwise_iff_getElem.1 h.ris j i hj hi hij
             rw [ei, ej, e, eb, kcmp_zero.2 rfl] at this; omega
          rw [← this]; exact e2
        · exact ⟨a, (mem_putR h.ris _).2 (.inr (.inr ⟨ha, e, e2⟩)), rfl⟩
      · exact ⟨a, (mem_putR h.ris _).2 (.inl ⟨ha, e⟩), rfl⟩
     rcases List.mem_append.1 hp with hp | hp
     · obtain ⟨a, ha, hak⟩ := h.all p hp hpk
       obtain ⟨r, hr, e⟩ := key a ha;exact ⟨r, hr, e.trans hak⟩
     · have : p = o := by simpa using hp
       subst this;by_cases e : ∃ a ∈ R, a.key = p.act.key
       · obtain ⟨a, ha, hak⟩ := e
         obtain ⟨r, hr, e⟩ := key a ha;exact ⟨r, hr, e.trans hak⟩
       · exact ⟨regOf p, (mem_putR h.ris _).2 (.inr (.inl ⟨rfl, fun b hb eb => absurd ⟨b, hb, eb⟩ e⟩)), rfl⟩
 · rw [if_neg hk]
   have hback : ∀ p ∈ l ++ [o], p.act.kind = 4 → p ∈ l := fun p hp hpk => by
    rcases List.mem_append.1 hp with hp | hp
    · exact hp
    · have : p = o := by simpa using hp
      subst this; exact absurd hpk hk
   refine ⟨h.ris, fun r => ?_, fun p hp hpk => h.all p (hback p hp hpk) hpk⟩;rw [h.mem r];constructor
   · rintro ⟨q, hq, hqk, e, hmax⟩; exact ⟨q, by simp [hq], hqk, e, fun p hp hpk => hmax p (hback p hp hpk) hpk⟩
   · rintro ⟨q, hq, hqk, e, hmax⟩; exact ⟨q, hback q hq hqk, hqk, e, fun p hp => hmax p (by simp [hp])⟩
structure LBk (R : List Reg) (key : ByteArray) (i : Nat) : Prop where
 le : i ≤ R.length
 at_ : ∀ (k : Nat) (r : Reg), R[k]? = some r → (kcmp r.key key < 0 ↔ k < i)
theorem putR_at {x : Reg} : ∀ {R : List Reg} {i : Nat}, RSort R → LBk R x.key i → (∀ a, R[i]? = some a → a.key ≠ x.key) → putR x R = R.take i ++ x :: R.drop i
 | [], i, _, h, _ => by
  have : i = 0 := by have := h.le; simp at this; exact this
  subst this; rfl
 | a :: R, i, hs, h, hn => by
  have h0 := h.at_ 0 a rfl;unfold putR;cases i with
  | zero =>
   have h1 : ¬ kcmp a.key x.key < 0 := fun e => absurd (h0.1 e) af
   rw [if_neg h1, if_neg (hn a rfl)]; rfl
  | succ i =>
   have h1 : kcmp a.key x.key < 0 := h0.2 af;rw [if_pos h1, List.take_succ_cons, List.drop_succ_cons, List.cons_append];congr 1
   refine putR_at (List.pairwise_cons.1 hs).2 ⟨by have := h.le; simp at this; omega, fun k r hr => ?_⟩ (fun b hb => hn b (by simpa using hb));rw [h.at_ (k + 1) r (by simpa using hr)]; omega
theorem putR_set {x : Reg} : ∀ {R : List Reg} {i : Nat} {a : Reg}, LBk R x.key i → R[i]? = some a → a.key = x.key → putR x R = R.set i (if 0 < rcmp x a then x else a)
 | [], i, _, _, h, _ => by simp at h
 | b :: R, i, a, h, ha, hk => by
  have h0 := h.at_ 0 b rfl;unfold putR;cases i with
  | zero =>
   have e : b = a := by simpa using ha
   have h1 : ¬ kcmp b.key x.key < 0 := fun e => absurd (h0.1 e) af
   rw [if_neg h1, if_pos (by rw [e]; exact hk), e]; rfl
  | succ i =>
   have h1 : kcmp b.key x.key < 0 := h0.2 af;rw [if_pos h1, List.set_cons_succ];congr 1
   refine putR_set ⟨by have := h.le; simp at this; omega, fun k r hr => ?_⟩ (by simpa using ha) hk;rw [h.at_ (k + 1) r (by simpa using hr)]; omega
theorem reg_fill (k : ByteArray) (v : Val) (st : Nat) {x : ID} (hx : x.length = 32) : fillL (fun i => ([(0, 1), (1, 4), (5, 1), (6, 32)] : List (Nat × Nat))[i]?) ([.string ⟨#[]⟩, .int .u8 0, .int .i64 0, .int .u64 0, .string ⟨#[]⟩, .int .u64 0] ++ List.replicate 32 (.int .u8 0)) [(0, [.string k]), (1, valC v), (2, [.int .u64 (st : Int)]), (3, idC x)] = some (regC ⟨k, v, st, x⟩) := by
 have hl : (idC x).length = 32 := by rw [idC_length, hx]
 have e4 : over ([Value.string k] ++ (valC v ++ [Value.int .u64 (st : Int)]) ++ List.replicate 32 (Value.int .u8 0)) 6 (idC x) = regC ⟨k, v, st, x⟩ := by
  rw [over_tail (n := 6) (by rw [hl, List.length_replicate]) rfl]; rfl
 have hlen : ([Value.string k] ++ (valC v ++ [Value.int .u64 (st : Int)]) ++ List.replicate 32 (Value.int .u8 0)).length = 38 := rfl;unfold fillL;simp only [List.getElem?_cons_zero];rw [if_pos (by rfl)];unfold fillL;simp only [List.getElem?_cons_succ, List.getElem?_cons_zero];rw [if_pos (by rfl)];unfold fillL;simp only [List.getElem?_cons_succ, List.getElem?_cons_zero];rw [if_pos (by rfl)];have e5 : over (over (over ([Value.string ⟨#[]⟩, Value.int .u8 0, Value.int .i64 0, Value.int .u64 0, Value.string ⟨#[]⟩, Value.int .u64 0] ++ List.replicate 32 (Value.int .u8 0)) 0 [Value.string k]) 1 (valC v)) 5 [Value.int .u64 (st : Int)] = [Value.string k] ++ (valC v ++ [Value.int .u64 (st : Int)]) ++ List.replicate 32 (Value.int .u8 0) := rfl;rw [e5];unfold fillL;simp only [List.getElem?_cons_succ, List.getElem?_cons_zero];rw [if_pos (by rw [hl, hlen]; rfl)];unfold fillL;rw [e4]
theorem isnan_u64 {c : World} {h : GH} {L : Own} {a : Nat}:
 Fun Tryz.prog c 220 #[.int .u64 (a : Int)] h L (fun u _ L' => u = .bool false ∧ L = L') := by
 refine kF (N := 6) (args := [.int .u64 (a : Int)]) Tryz.func220 ?_;refine qo ae ?_;refine qg (qd (qo ae ?_));refine qg (qg (qg (neqB (fun c5 => ?_) (fun c5 => ?_))))
 ·
  exact absurd rfl c5
 ·
  refine qg (qd ?_);refine ze rfl ?_;exact ⟨rfl, rfl⟩
theorem compare_u64 {c : World} {h : GH} {L : Own} {a b : Nat}:
 Fun Tryz.prog c 180 #[.int .u64 (a : Int), .int .u64 (b : Int)] h L (fun u _ L' => u = .int .i64 (scmp a b) ∧ L = L') := by
 refine kF (N := 20) (args := [.int .u64 (a : Int), .int .u64 (b : Int)]) Tryz.func180 ?_;refine qo ae ?_;refine qg (qd (qo ae ?_));refine qg (qg (qc (isnan_u64 (a := a)) ?_));rintro v8 h2 L_ le1 ⟨rfl, rfl⟩;refine qg (qd (qo ae ?_));refine qg (qg (qc (isnan_u64 (a := b)) ?_));rintro v10 h4 L_ le3 ⟨rfl, rfl⟩;refine qg (qd (qo ae ?_));refine qg (qd (qo ae ?_));refine qg (qd (qo ae ?_));refine qg (qg (qg (lssB (fun c16 => ?_) (fun c16 => ?_))))
 ·
  refine qd (qo ae ?_);refine qg (qd ?_);refine ze rfl ?_;have e : scmp a b = -1 := by unfold scmp; rw [if_pos af]
  rw [e]; exact ⟨rfl, rfl⟩
 ·
  refine qd (qo ae ?_);refine qg (qg (qg (gtrB (fun c19 => ?_) (fun c19 => ?_))))
  ·
   refine qd (qo ae ?_);refine qg (qd ?_);refine ze rfl ?_;have e : scmp a b = 1 := by unfold scmp; rw [if_neg af, if_pos af]
   rw [e]; exact ⟨rfl, rfl⟩
  ·
   refine qd (qo ae ?_);refine qg (qd ?_);refine ze rfl ?_;have e : scmp a b = 0 := by unfold scmp; rw [if_neg af, if_neg af]
   rw [e]; exact ⟨rfl, rfl⟩
theorem lww_later {c : World} {h : GH} {L : Own} {x y : Reg} (hx : RegOk x) (hy : RegOk y):
 Fun Tryz.prog c 120 #[.agg (regC x).toArray, .agg (regC y).toArray] h L (fun u _ L' => u = .bool (decide (0 < rcmp x y)) ∧ L = L') := by
 have hxs : (idC x.id).length = 32 := by rw [idC_length]; exact hx.1
 have hys : (idC y.id).length = 32 := by rw [idC_length]; exact hy.1
 refine kF (N := 18) (args := [.agg (regC x).toArray, .agg (regC y).toArray]) Tryz.func120 ?_;refine qo ae ?_;refine qg (box_at rfl ?_);intro p2 h2 le1 hp2;refine qg (box_at rfl ?_);intro p3 h4 le3 hp3;replace hp2 := hp2.mono le3;refine qg (qd ?_);refine qD mixed [] [0, 1, 2, 3, 5, 6, 7, 8, 4, 9, 10, 11, 12, 13] [] ae sub_nil ?_;refine qr rfl rfl rfl (qf fi_102_2 aa ?_);intro p5 hp5;refine qr rfl rfl rfl (ql (v := .int .u64 (x.stamp : Int)) sc_52 hp5 ?_);refine qr rfl rfl rfl (qf fi_102_2 aa ?_);intro p7 hp7;refine qr rfl rfl rfl (ql (v := .int .u64 (y.stamp : Int)) sc_52 hp7 ?_);refine qr rfl rfl rfl (qf fi_102_3 hp2 ?_);intro p10 hp10x;have hp10 : At _ p10 (idC x.id) := hp10x;refine qr rfl rfl rfl (slice_idX ar_74 aa aa ?_);intro v11 hv11;refine qr rfl rfl rfl (qf fi_102_3 hp3 ?_);intro p12 hp12x;have hp12 : At _ p12 (idC y.id) := hp12x;refine qr rfl rfl rfl (slice_idX ar_74 aa aa ?_);intro v13 hv13;refine qj rfl rfl rfl ?_;refine qc (compare_u64 (a := x.stamp) (b := y.stamp)) ?_;rintro v9 h6 L_ le5 ⟨rfl, rfl⟩;replace hv11 := hv11.mono le5; replace hv13 := hv13.mono le5;refine ⟨am, ?_⟩;refine qj rfl rfl rfl ?_;refine qc (bytes_compare hv11 hv13) ?_;rintro v14 h8 L_ le7 ⟨rfl, rfl⟩;refine ⟨am, ?_⟩;refine qj rfl rfl rfl ?_;refine buildSliceN (ls := [[_], [_]]) sl_159 zc_3 (qy ac (qy ac Parts.nil)) rfl rfl (all2 rfl rfl) (all2 ad ad) ah ah ?_;intro v15 h10 le9 hv15;refine ⟨am, ?_⟩;refine qj rfl rfl rfl ?_;refine qc (cmp_or2 hv15) ?_;rintro v16 h12 L_ le11 ⟨rfl, rfl⟩;rw [show (if scmp x.stamp y.stamp = 0 then Lib.compareBytes x.id y.id else scmp x.stamp y.stamp) = rcmp x y from rfl];refine ⟨am, ?_⟩;refine qr rfl rfl rfl (gtrB (fun c17 => ?_) (fun c17 => ?_))
 ·
  refine qr rfl rfl rfl (qe zf ?_);refine ze rfl ?_;rw [decide_eq_true c17]; exact ⟨rfl, rfl⟩
 ·
  refine qr rfl rfl rfl (qe zf ?_);refine ze rfl ?_;rw [decide_eq_false c17]; exact ⟨rfl, rfl⟩
theorem lww_key {c : World} {h : GH} {L : Own} {x : Reg}:
 Fun Tryz.prog c 118 #[.agg (regC x).toArray] h L (fun u _ L' => u = .string x.key ∧ L = L') := by
 refine kF (N := 5) (args := [.agg (regC x).toArray]) Tryz.func118 ?_;refine qo ae ?_;refine qg (box_at rfl ?_);intro p1 h2 le1 hp1;refine qg (qd (qo ae ?_));refine qg (qf fi_102_0 aa ?_);intro p3 hp3;refine qg (ql (v := .string x.key) sc_9 hp3 ?_);refine qg (qd ?_);refine ze rfl ?_;exact ⟨rfl, rfl⟩
end Go.Brd
namespace Go.Brd
open Go Go.Brd Go.Proofs
set_option linter.unusedVariables false
theorem ag_102 : aggN Tryz.prog 102 38 = true := by kernel_rfl
theorem pl_102 : placesOf Tryz.prog 102 = some [(0, 1), (1, 4), (5, 1), (6, 32)] := by kernel_rfl
theorem pl_f117 : plain Tryz.prog 117 = true := by kernel_rfl
theorem sc_175 : scalar Tryz.prog 175 = true := by kernel_rfl
theorem si_102 : sizeIs Tryz.prog 102 38 = true := by kernel_rfl
theorem zc_102 : zeroC Tryz.prog 102 = some ([.string ⟨#[]⟩, .int .u8 0, .int .i64 0, .int .u64 0, .string ⟨#[]⟩, .int .u64 0] ++ List.replicate 32 (.int .u8 0)) := by kernel_rfl
def hasKey (R : List Reg) (key : ByteArray) : Bool := R.any fun r => decide (r.key = key)
theorem hasKey_iff {R : List Reg} {key : ByteArray} : hasKey R key = true ↔ ∃ r ∈ R, r.key = key := by
 unfold hasKey; rw [List.any_eq_true];constructor
 · rintro ⟨r, h1, h2⟩; exact ⟨r, h1, of_decide_eq_true h2⟩
 · rintro ⟨r, h1, h2⟩; exact ⟨r, h1, decide_eq_true h2⟩
theorem set_same {α : Type} {l : List α} {i : Nat} {a : α} (h : l[i]? = some a) : l.set i a = l := by
 apply List.ext_getElem?;intro j;rw [List.getElem?_set];by_cases e : i = j
 · subst e; rw [if_pos rfl, if_pos (List.getElem?_eq_some_iff.1 h).1, h]
 · rw [if_neg e]
theorem rsort_lt {R : List Reg} (hs : RSort R) {i j : Nat} {a b : Reg} (hij : i < j) (hi : R[i]? = some a) (hj : R[j]? = some b) : kcmp a.key b.key < 0 := by
 obtain ⟨h1, e1⟩ := List.getElem?_eq_some_iff.1 hi;obtain ⟨h2, e2⟩ := List.getElem?_eq_some_iff.1 hj;have := List.pairwise_iff_getElem.1 hs i j h1 h2 hij;rw [e1, e2] at this; exact this
theorem LBk.has {R : List Reg} (hs : RSort R) {key : ByteArray} {i : Nat} (h : LBk R key i) : hasKey R key = true ↔ ∃ r, R[i]? = some r ∧ r.key = key := by
 rw [hasKey_iff];constructor
 · rintro ⟨r, hr, e⟩
   obtain ⟨k, hk, ek⟩ := List.getElem_of_mem hr;have h1 : R[k]? = some r := by rw [List.getElem?_eq_getElem hk, ek]
   have h2 : ¬ k < i := fun hlt => by
    have := (h.at_ k r h1).2 hlt;rw [e, kcmp_zero.2 rfl] at this; omega
   refine ⟨r, ?_, e⟩;by_cases hki : k = i
   · rw [← hki]; exact h1
   · obtain ⟨a, ha⟩ : ∃ a, R[i]? = some a := ⟨R[i]'af, List.getElem?_eq_getElem _⟩
     have h3 := rsort_lt hs (show i < k by omega) ha h1;rw [e] at h3;have := (h.at_ i a ha).1 h3; omega
 · rintro ⟨r, h1, e⟩; exact ⟨r, List.mem_of_getElem? h1, e⟩
theorem bsearch_reg {c : World} {h : GH} {L : Own} {v : Value} {R : List Reg} {key : ByteArray} {g : Nat} {caps : List Value} (hs : Sl h v 38 (R.map regC)) (hr : RSort R) (hok : ∀ r ∈ R, RegOk r) (hE : ∀ (x : Reg) (h1 : GH) (L0 : Own), GH.le h h1 → RegOk x → Fun Tryz.prog c g ([Value.agg (regC x).toArray, .string key] ++ caps).toArray h1 L0 (fun u _ L' => u = .int .i64 (kcmp x.key key) ∧ L0 = L')):
 Fun Tryz.prog c 176 #[v, .string key, .func (.func g) #[] caps.toArray] h L (fun u _ L' => (∃ i, u = .tuple #[.int .i64 (i : Nat), .bool (hasKey R key)] ∧ LBk R key i) ∧ L = L') := by
 have hle0 := GH.le_refl h;have hsm := hs.small; rw [List.length_map] at hsm;refine kF (N := 49) (args := [v, .string key, .func (.func g) #[] caps.toArray]) Tryz.func176 ?_;refine qo ae ?_;refine qg (qg (qd (qo ae ?_)));refine qg (qg (qm sl_38 hs ?_));refine qg (qd (qo ae ?_));refine qg (qg (qg (qd ?_)));refine qL (fun s0 nn s' h' L' => ∃ (i : Nat) (j : Nat), s' = [(9, .int .i64 i), (10, .int .i64 j)] ++ qR s0 [0, 1, 2, 8] ∧ nn = j - i ∧ L = L' ∧ i ≤ j ∧ j ≤ R.length ∧ (∀ (k : Nat) (r : Reg), k < i → R[k]? = some r → kcmp r.key key < 0) ∧ (∀ (k : Nat) (r : Reg), j ≤ k → R[k]? = some r → ¬ kcmp r.key key < 0)) ⟨0, R.length, rfl, rfl, rfl, ?_⟩ zg zl zn ?_
 · exact ⟨Nat.zero_le _, Nat.le_refl _, fun k r hk => absurd hk (Nat.not_lt_zero k), fun k r hk hy => by have := (List.getElem?_eq_some_iff.1 hy).1; omega⟩
 rintro nn s1 h1 L_ le2 ⟨i, j, rfl, rfl, rfl, hij, hj, hlo, hhi⟩;replace hs := hs.mono le2; replace hle0 := hle0.mono le2;refine qo ae ?_;refine qg (qg (qg (lssB (fun c17 => ?_) (fun c17 => ?_))))
 ·
  have hijl : i < j := by omega
  obtain ⟨m, hm⟩ : ∃ m, (i + j) / 2 ^ 1 = m := ⟨_, rfl⟩;have hmb : i ≤ m ∧ m < j := by rw [show (2 : Nat) ^ 1 = 2 from rfl] at hm; omega
  obtain ⟨y, hy⟩ := qE (l := R) (k := m) af;have hyk := hok y (List.mem_of_getElem? hy);have hyl : (regC y).length = 38 := by rw [regC_length, hyk.1]
  refine qd (qo ae ?_);refine qg (qg (qg (add_i64n (a := i) (b := j) af ?_)));refine qg (conv_u64 it_3_143 af ?_);refine qg (shr_nat (n := 1) ah ?_);rw [hm];refine qg (conv_i64 it_143_3 ak ?_);refine qg (qd (qo ae ?_));refine qg (qg (qg (qg (qi (k := m) sl_38 hs rfl hy ?_))));intro p27 r27 hl27 hp27;refine qg (qP ag_102 hp27 hyl ?_);refine qg (qg (DoCall.clo (hE y _ _ hle0 hyk) ?_));rintro v30 h4 L_ le3 ⟨rfl, rfl⟩;refine qg (lssB (fun c31 => ?_) (fun c31 => ?_))
  ·
   refine qd (qo ae ?_);refine qg (qg (qA ak ?_));refine qg (qd ?_)
   exact back (m := _) ⟨m + 1, j, rfl, rfl, rfl, by omega, hj, fun k r hk hr2 => by
    rcases Nat.lt_or_ge k m with h1 | h1
    · exact kcmp_trans (rsort_lt hr h1 hr2 hy) c31
    · have : k = m := by omega
      subst this; rw [hy] at hr2; cases hr2; exact c31, hhi⟩ af zg zl zn
  ·
   refine qd (qo ae ?_);refine qg (qg (qd ?_))
   exact back (m := _) ⟨i, m, rfl, rfl, rfl, by omega, by omega, hlo, fun k r hk hr2 hlt => by
    rcases Nat.lt_or_ge m k with h1 | h1
    · exact c31 (kcmp_trans (rsort_lt hr h1 hy hr2) hlt)
    · have : k = m := by omega
      subst this; rw [hy] at hr2; cases hr2; exact c31 hlt⟩ af zg zl zn
 ·
  have hie : i = j := by omega
  subst hie;have hlb : LBk R key i := ⟨hj, fun k r hk => ⟨fun h => (Nat.lt_or_ge k i).elim id (fun h2 => absurd h (hhi k r h2 hk)), fun h => hlo k r h hk⟩⟩;have hmem := hlb.has hr;refine qd (qo ae ?_);refine qg (qg (qg (qg (lssB (fun c38 => ?_) (fun c38 => ?_)))))
  ·
   obtain ⟨y, hy⟩ := qE (l := R) (k := i) af;have hyk := hok y (List.mem_of_getElem? hy);have hyl : (regC y).length = 38 := by rw [regC_length, hyk.1]
   refine qg (qT rfl rfl ?_);refine qT rfl rfl ?_;refine qT rfl rfl ?_;refine qT rfl rfl ?_;refine qi (k := i) sl_38 hs rfl hy ?_;intro p43 r43 hl43 hp43;refine qT rfl rfl ?_;refine qP ag_102 hp43 hyl ?_;refine qT rfl rfl ?_;refine qT rfl rfl ?_;refine DoCall.clo (hE y _ _ hle0 hyk) ?_;rintro v46 h6 L_ le5 ⟨rfl, rfl⟩;refine qT rfl rfl ?_;refine eqlB (fun c47 => ?_) (fun c47 => ?_)
   ·
    refine qg (qg (qg (qd ?_)));refine DoRet.r2 (.tmp rfl) (.tmp rfl) zg zl ?_;have he : y.key = key := kcmp_zero.1 c47;exact ⟨⟨i, by rw [hmem.2 ⟨y, hy, he⟩], hlb⟩, rfl⟩
   ·
    refine qg (qg (qg (qd ?_)));refine DoRet.r2 (.tmp rfl) (.tmp rfl) zg zl ?_
    have he : hasKey R key = false := by
     cases hh : hasKey R key with
     | false => rfl
     | true =>
      obtain ⟨r, h1, h2⟩ := hmem.1 hh;rw [hy] at h1; cases h1; exact absurd (kcmp_zero.2 h2) c47
    exact ⟨⟨i, by rw [he], hlb⟩, rfl⟩
  ·
   refine qg (DoOps.skipT rfl rfl ?_);refine DoOps.skipT rfl rfl ?_;refine DoOps.skipT rfl rfl ?_;refine DoOps.skipT rfl rfl ?_;refine DoOps.skipT rfl rfl ?_;refine DoOps.skipT rfl rfl ?_;refine DoOps.skipT rfl rfl ?_;refine DoOps.skipT rfl rfl ?_;refine qg (qg (qg (qd ?_)));refine DoRet.r2 (.tmp rfl) (.tmp rfl) zg zl ?_
   have he : hasKey R key = false := by
    cases hh : hasKey R key with
    | false => rfl
    | true =>
     obtain ⟨r, h1, h2⟩ := hmem.1 hh;have := (List.getElem?_eq_some_iff.1 h1).1;omega
   exact ⟨⟨i, by rw [he], hlb⟩, rfl⟩
theorem lww_find1 {c : World} {h : GH} {L : Own} {p : Value} {x : Reg} {key : ByteArray} (hp : At h p [.func (.func 118) #[] #[]]) (hx : RegOk x):
 Fun Tryz.prog c 177 #[.agg (regC x).toArray, .string key, p] h L (fun u _ L' => u = .int .i64 (kcmp x.key key) ∧ L = L') := by
 have hxl : (regC x).length = 38 := by rw [regC_length, hx.1]
 refine kF (N := 11) (args := [.agg (regC x).toArray, .string key, p]) Tryz.func177 ?_;refine qo ae ?_;refine qg (box_at rfl ?_);intro p3 h2 le1 hp3;replace hp := hp.mono le1;refine qg (qd (qo ae ?_));refine qg (ql (v := .func (.func 118) #[] #[]) sc_175 hp ?_);refine qg (qX ag_102 hp3 hxl ?_);refine qg (qc (lww_key) ?_);rintro v8 h4 L_ le3 ⟨rfl, rfl⟩;refine qg (qg (qc (compare_str (a := x.key) (b := key)) ?_));rintro v10 h6 L_ le5 ⟨rfl, rfl⟩;refine qg (qd ?_);refine ze rfl ?_;exact ⟨rfl, rfl⟩
theorem lww_find {c : World} {h : GH} {L : Own} {v : Value} {R : List Reg} {key : ByteArray} (hs : Sl h v 38 (R.map regC)) (hr : RSort R) (hok : ∀ r ∈ R, RegOk r):
 Fun Tryz.prog c 117 #[v, .func (.func 118) #[] #[], .string key] h L (fun u _ L' => (∃ i, u = .tuple #[.int .i64 (i : Nat), .bool (hasKey R key)] ∧ LBk R key i) ∧ L = L') := by
 refine kF (N := 14) (args := [v, .func (.func 118) #[] #[], .string key]) Tryz.func117 ?_;refine qo ae ?_;refine qg (box_at (by first | exact Sl.cells aa | rfl) ?_);intro p4 h2 le1 hp4;replace hs := hs.mono le1;refine qg (qg (qd (qo ae ?_)));refine qg (qg (qg (qg (qc (bsearch_reg (caps := [p4]) hs hr hok (fun x h1 L0 hle hx => lww_find1 (hp4.mono hle) hx)) ?_))));rintro v11 h4 L_ le3 ⟨⟨i11, rfl, hlb⟩, rfl⟩;refine qg (qg (qg (qg (qd ?_))));refine DoRet.r2 (.tmp rfl) (.tmp rfl) zg zl ?_;exact ⟨⟨i11, rfl, hlb⟩, rfl⟩
theorem lww_apply {c : World} {h : GH} {L : Own} {v pv : Value} {o : Op} {R : List Reg} {N : Own} (hv : OS 102 38 v (R.map regC) N) (hr : RSort R) (hok : ∀ r ∈ R, RegOk r) (hl : R.length ≤ 500) (hp : oneCell pv = true) (hks : o.act.key.size < 1000):
 Fun Tryz.prog c 77 #[v, .agg (opC2 o pv).toArray, idV (idOf o)] h (N ++ L) (fun u _ L' => ∃ N', L' = N' ++ L ∧ OS 102 38 u ((putO o R).map regC) N') := by
 have h32 : (idOf o).length = 32 := idOf_len o;have hrl : (regC (regOf o)).length = 38 := by rw [regC_length]; show (idOf o).length + 6 = 38; rw [h32]
 have hxok : RegOk (regOf o) := ⟨h32, hks⟩;refine kF (N := 50) (args := [v, .agg (opC2 o pv).toArray, idV (idOf o)]) Tryz.func77 ?_;refine qo ae ?_;refine qg (box_at rfl ?_);intro p4 h2 le1 hp4;refine qg (box_at rfl ?_);intro p5 h4 le3 hp5;replace hp4 := hp4.mono le3;refine qg (qd (qo ae ?_));refine qg (qf fi_61_3 aa ?_);intro p10 hp10;refine qg (qf fi_57_0 aa ?_);intro p11 hp11;refine qg (ql (v := .int .u8 (o.act.kind : Int)) sc_5 hp11 ?_);refine qg (neqB (fun c13 => ?_) (fun c13 => ?_))
 ·
  refine qd (qo ae ?_);refine qg (qg (qd ?_));refine DoRet.r1 (.tmp rfl) (qh (List.Sublist.append_left kS _)) zl ?_;have hk4 : ¬ o.act.kind = 4 := by omega
  exact ⟨N, rfl, by unfold putO; rw [if_neg hk4]; exact hv⟩
 ·
  have hk4 : o.act.kind = 4 := by omega
  refine qd (qo ae ?_);refine qg (qf fi_61_3 aa ?_);intro p15 hp15;refine qg (qf fi_57_1 aa ?_);intro p16 hp16;refine qg (ql (v := .string o.act.key) sc_9 hp16 ?_);refine qg (qf fi_61_3 aa ?_);intro p18 hp18;refine qg (qf fi_57_2 aa ?_);intro p19 hp19;refine qg (load_aggT ag_55 (l := valC o.act.val ++ [.int .u32 o.e, .int .u32 o.s]) hp19 (by exact Nat.le_of_ble_eq_true rfl) ?_);refine qg (qf fi_61_2 aa ?_);intro p21 hp21;refine qg (ql (v := .int .u64 (o.stamp : Int)) sc_52 hp21 ?_);refine qg (qX ag_74 hp5 (show (idC (idOf o)).length = 32 by rw [idC_length, h32]) ?_);refine qg (build_struct zc_102 pl_102 (qy ac (qy ac (qy ac (qy ac Parts.nil)))) (reg_fill o.act.key o.act.val o.stamp h32) ?_);refine qg (qa zc_102 ?_);intro b7;refine qg (kB (l' := regC (regOf o)) si_102 ac hrl (regC_all _) kR ab (over_all (by rw [hrl]; rfl)) kR.symm ?_);refine qd (qo ae ?_);refine qg (qg (qw fi_102_0 ?_));refine qg (qO (v := .string o.act.key) sc_9 kH rfl ?_);refine qg (DoCall.borrow pl_f117 hv al ((zc kR).trans zm.symm) (fun hB leB hbB => lww_find hbB hr hok) ?_);rintro v29 h6 le5 ⟨i29, rfl, hlb⟩;obtain ⟨bk, hbk⟩ : ∃ b, hasKey R o.act.key = b := ⟨_, rfl⟩;rw [hbk];refine qg (qg (qg (qg (qg (qd (qo ae ?_))))));refine qg (qg (not_bool ?_));refine qd ?_;cases bk
  rotate_left
  ·
   obtain ⟨a, ha, hak⟩ := (hlb.has hr).1 hbk;have hil : i29 < (R.map regC).length := by rw [List.length_map]; exact (List.getElem?_eq_some_iff.1 ha).1
   have hal : (regC a).length = 38 := by rw [regC_length, (hok a (List.mem_of_getElem? ha)).1]
   have hset := putR_set (x := regOf o) hlb ha hak;refine qD mixed [] [0, 1, 2, 3, 4, 5] (_ :: (N ++ [])) ae (qq kH (sub_app (fun e he => (kT (List.mem_append_left _ he))) sub_nil)) ?_;refine qr rfl rfl rfl (qx (r := regC (regOf o)) ag_102 kH (by rw [hrl]; exact Nat.le_refl _) (by show List.take 38 (regC _) = _; rw [← hrl, List.take_length]) ?_);refine qr rfl rfl rfl (qr rfl rfl rfl (qr rfl rfl rfl (index_os (k := i29) sl_38 aa rfl hil ?_)));intro p42 hp42;refine qr rfl rfl rfl (load_osX (r := regC a) ag_102 aa aa (fun e he => (kT (List.mem_append_left _ he))) (map_get ha) (by rw [hal]; exact Nat.le_refl _) (by show List.take 38 (regC _) = _; rw [← hal, List.take_length]) ?_);refine qj rfl rfl rfl ?_;refine qc (lww_later hxok (hok a (List.mem_of_getElem? ha))) ?_;rintro v44 h8 L_ le7 ⟨rfl, rfl⟩;obtain ⟨bl, hbl⟩ : ∃ b, decide (0 < rcmp (regOf o) a) = b := ⟨_, rfl⟩;rw [hbl];refine ⟨(qq kH (sub_app (fun e he => (kT (List.mem_append_left _ he))) sub_nil)), ?_⟩;refine qe zf ?_;cases bl
   ·
    refine qo ae ?_;refine qg (qg (qd ?_));refine DoRet.r1 (.tmp rfl) (qh (zu (List.Sublist.append_left kS _))) zl ?_;exact ⟨N, rfl, by unfold putO; rw [if_pos hk4, hset, if_neg (of_decide_eq_false hbl), List.map_set, set_same (map_get ha)]; exact hv⟩
   ·
    refine qo ae ?_;refine qg (qg (qg (qx (r := regC (regOf o)) ag_102 kH (by rw [hrl]; exact Nat.le_refl _) (by show List.take 38 (regC _) = _; rw [← hrl, List.take_length]) ?_)));refine qg (index_os (k := i29) sl_38 aa rfl hil ?_);intro p48 hp48;refine qg (store_os si_102 ac hrl (regC_all _) aa hv (map_get ha) ((zc kR).trans zm.symm) (by rw [hal]; exact Nat.le_refl _) (over_all (by rw [hal, hrl])) ?_);clear hv; intro M9 hv; refine ⟨_, ((zc kR).trans zm.symm).symm, ?_⟩;refine qd (qo ae ?_);refine qg (qg (qd ?_));refine DoRet.r1 (.tmp rfl) (qh (zu (List.Sublist.append_left kS _))) zl ?_;exact ⟨_, rfl, by unfold putO; rw [if_pos hk4, hset, if_pos (of_decide_eq_true hbl), List.map_set]; assumption⟩
  ·
   have hno : ∀ a, R[i29]? = some a → a.key ≠ (regOf o).key := fun a ha e => by
    rw [(hlb.has hr).2 ⟨a, ha, e⟩] at hbk; cases hbk
   have hput := putR_at (x := regOf o) hr hlb hno;refine qo ae ?_;refine qg (qg (qg (qx (r := regC (regOf o)) ag_102 kH (by rw [hrl]; exact Nat.le_refl _) (by show List.take 38 (regC _) = _; rw [← hrl, List.take_length]) ?_)));refine qg (qB sl_38 z_102 rfl ag ah (regC_all _) ?_);intro v37 h11 le10 hv37;refine qg (DoCall.os ((zc kR).trans zm.symm) (insert_reg hv hv37 (by rw [List.length_map]; exact hlb.le) al) ?_);intro v38 h13 N38 le12 hv38;refine ⟨_, ((zc kR).trans zm.symm).symm, ?_⟩;refine qg (qd ?_);refine DoRet.r1 (.tmp rfl) (qh (zu (List.Sublist.append_left kS _))) zl ?_;exact ⟨N38, rfl, by unfold putO; rw [if_pos hk4, hput, List.map_append, List.map_cons, List.map_take, List.map_drop]; exact hv38⟩
end Go.Brd
