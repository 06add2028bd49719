/- Walks of functions that braidtop.TopMerged reaches, each with what it computes, and the plain laws of what they compute, part 6. Conditions: those of each theorem (the arguments lie in blocks that no longer change, sizes as the law bounds them). Printed by a program of this claim and shortened by another: the names of two letters are abbreviations, explained where the first of them stand. -/
import Derived.Test.YtjgjcjohbdibnaaGreatDoorK5
set_option linter.all false
namespace Go.Brd
open Go Go.Brd Go.Proofs
set_option linter.unusedVariables false
theorem ag_40 : aggN Tryz.prog 40 1 = true := by kernel_rfl
theorem ag_42 : aggN Tryz.prog 42 4 = true := by kernel_rfl
theorem fi_40_0 : fieldIs Tryz.prog 40 0 0 = true := by kernel_rfl
theorem fi_42_2 : fieldIs Tryz.prog 42 2 2 = true := by kernel_rfl
theorem fi_42_3 : fieldIs Tryz.prog 42 3 3 = true := by kernel_rfl
theorem pl_42 : placesOf Tryz.prog 42 = some [(0, 1), (1, 1), (2, 1), (3, 1)] := by kernel_rfl
theorem sc_38 : scalar Tryz.prog 38 = true := by kernel_rfl
theorem si_38 : sizeIs Tryz.prog 38 1 = true := by kernel_rfl
theorem si_40 : sizeIs Tryz.prog 40 1 = true := by kernel_rfl
theorem si_42 : sizeIs Tryz.prog 42 4 = true := by kernel_rfl
theorem zc_40 : zeroC Tryz.prog 40 = some ([.slice none 0 0]) := by kernel_rfl
theorem zc_42 : zeroC Tryz.prog 42 = some ([.int .i64 0, .slice none 0 0, .slice none 0 0, .slice none 0 0]) := by kernel_rfl
theorem putO_len (o : Op) (R : List Reg) : (putO o R).length ≤ R.length + 1 := by
 unfold putO; split
 · exact putR_len _ _
 · omega
theorem take_ids_ne {l : List Op} (hG : GOk l) {k : Nat} {o : Op} (ho : l[k]? = some o) : ∀ q ∈ l.take k, idOf q ≠ idOf o := fun q hq e => by
 have h1 : (l.map idOf)[k]? = some (idOf o) := map_get ho;have h2 := not_mem_take hG.nodup h1;exact h2 (by rw [← List.map_take, ← e]; exact List.mem_map.2 ⟨q, hq, rfl⟩)
theorem RegsOf.ok {l : List Op} {R : List Reg} (h : RegsOf l R) (hk : ∀ o ∈ l, o.act.key.size < 1000) : ∀ r ∈ R, RegOk r := fun r hr => by
 obtain ⟨o, ho, _, rfl, _⟩ := (h.mem r).1 hr;exact ⟨idOf_len o, hk o ho⟩
theorem GOk.key {l : List Op} (hG : GOk l) : ∀ o ∈ l, o.act.key.size < 1000 := fun o ho => by
 have h1 := (opOk_iff.1 (hG.ok o ho).1).act;have := actOk_small h1;omega
theorem lww_of {c : World} {h : GH} {L : Own} {iv ov : Value} {xs : List (Op × Value)} (hg : GK h) (hi : RIds h iv ((fst1 xs).map idOf)) (ho : ROps h ov xs) (hG : GOk (fst1 xs)):
 Fun Tryz.prog c 37 #[gV iv ov] h L (fun u h' L' => (∃ z R, u = .tuple #[.agg #[z], .int .i64 0] ∧ Sl h' z 38 (R.map regC) ∧ RegsOf (fst1 xs) R ∧ R.length ≤ 60) ∧ L = L') := by
 have hfl := fst1_len xs;have h60 : xs.length ≤ 60 := by have := hG.small; omega
 have hkey := hG.key;refine kF (N := 34) (args := [gV iv ov]) Tryz.func37 ?_;refine qo ae ?_;refine qg (box_at rfl ?_);intro p1 h2 le1 hp1;replace hg := hg.mono le1; replace hi := hi.mono le1; replace ho := ho.mono le1;refine qg (qa zc_40 ?_);intro b2;refine qg (qd (qo ae ?_));refine qg (qX ag_25 aa ag ?_);refine qg (qc (dag_check hg hi ho hG) ?_);rintro v9 h4 L_ le3 ⟨rfl, rfl⟩;replace hi := hi.mono le3; replace ho := ho.mono le3; replace hp1 := hp1.mono le3;refine qg (qd (qo ae ?_));refine qg (qg (neqB (fun c11 => ?_) (fun c11 => ?_)))
 ·
  omega
 ·
  refine qd (qo ae ?_);refine qg (qa zc_40 ?_);intro b5;refine qd (qo ae ?_);refine qg (qf fi_25_1 aa ?_);intro p14 hp14;refine qg (ql sc_23 aa ?_);refine qg (qm sl_23 ho.sl ?_);refine qg (qd ?_);refine qL (fun s0 nn s' h' L' => ∃ (k : Nat) (v : Value) (N : Own) (R : List Reg), s' = [(17, .int .i64 k)] ++ qR s0 [1, 2, 5, 15, 16] ∧ nn = xs.length - k ∧ N ++ ((b5, .cells [v].toArray 40 (0, 0)) :: (b2, .cells [.slice none 0 0].toArray 40 (0, 0)) :: L) = L' ∧ k ≤ xs.length ∧ OS 102 38 v (R.map regC) N ∧ RegsOf ((fst1 xs).take k) R ∧ R.length ≤ k) ⟨0, _, [], [], rfl, rfl, rfl, ?_⟩ zg zl zn ?_
  · exact ⟨Nat.zero_le _, OS.nil _ _, by rw [List.take_zero]; exact RegsOf.nil, Nat.le_refl _⟩
  rintro nn s1 h5 L_ le6 ⟨k, v, N, R, rfl, rfl, rfl, hk, hv, hR, hRl⟩;replace hi := hi.mono le6; replace ho := ho.mono le6; replace hp1 := hp1.mono le6;refine qo ae ?_;refine qg (lssB (fun c18 => ?_) (fun c18 => ?_))
  ·
   have hkl : k < xs.length := by omega
   obtain ⟨y, hy⟩ := qE hkl;have hry := ho.each y (List.mem_of_getElem? hy);have hyo := fst1_mem hy;have hok := hR.ok (fun o ho => hkey o (List.mem_of_mem_take ho));have hput := hR.put (o := y.1) (take_ids_ne hG (fst1_at hy));have hpl := putO_len y.1 R;refine qd (qo ae ?_);refine qg (qg (qi (k := k) sl_23 ho.sl rfl hy ?_));intro p20 r20 hl20 hp20;refine qg (qP ag_61 hp20 rfl ?_);refine qg (qa zc_61 ?_);intro b7;refine qg (qg (kB (l' := opC y) si_61 ac ai (opC_one2 (Sl.one hry.preds)) kR ab rfl kR.symm ?_));refine qd ?_;refine qD mixed [10] [0, 1, 2, 3, 4, 5, 6, 7, 8, 9, 10] (_ :: (_ :: [])) ae (qq (kT (zq kH)) (qq kH sub_nil)) ?_;refine qr rfl rfl rfl (qw fi_40_0 ?_);refine qr rfl rfl rfl (qO (v := v) sc_38 kH rfl ?_);refine qr rfl rfl rfl (qx (r := opC2 y.1 y.2) ag_61 (kT kH) ab rfl ?_);refine qr rfl rfl rfl (qf fi_25_0 aa ?_);intro p25 hp25;refine qr rfl rfl rfl (ql sc_22 aa ?_);refine qr rfl rfl rfl (qr rfl rfl rfl (qi (k := k) sl_22 hi rfl (map_get (fst1_at hy)) ?_));intro p28 r28 hl28 hp28;refine qr rfl rfl rfl (qP ag_74 aa aa ?_);refine qj rfl rfl rfl ?_;refine qG ((zc kR).trans zm.symm) (lww_apply (pv := y.2) hv hR.ris hok af (Sl.one hry.preds) (hkey _ hyo)) ?_;rintro v30 h8 N30 le7 hv30;refine ⟨_, ((zc kR).trans zm.symm).symm, ?_⟩;refine ⟨(qq (kT (zq kH)) (qq kH sub_nil)), ?_⟩;refine qr rfl rfl rfl (qw fi_40_0 ?_);refine DoDr.drop rfl rfl rfl ?_;refine kB (l' := [v30]) si_38 ac ai ad ((zc ((za kR).trans zm)).trans zw) ab rfl ((zc ((za kR).trans zm)).trans zw).symm ?_;refine qe zf ?_;refine qo ae ?_;refine qg (qA ak ?_);refine qg (qd ?_);exact back (m := _) ⟨k + 1, v30, N30, putO y.1 R, rfl, rfl, rfl, by omega, hv30, by rw [takeS (fst1_at hy)]; exact hput, by omega⟩ af (qh (zu (List.Sublist.append_left (zv (zv kS)) _))) zl zn
  ·
   refine qd (qo ae ?_);refine qg (qx (r := [v]) ag_40 (zq kH) ab rfl ?_);refine qg (kB (l' := [v]) si_40 ac ai (show ([v] : List Value).all oneCell = true by simp [OS.one hv]) ((za ((zc kR).trans zw)).trans zm) ab rfl ((za ((zc kR).trans zw)).trans zm).symm ?_);refine qg (qd ?_);have hke : k = xs.length := by omega
   rw [hke, List.take_of_length_le af] at hR;refine DoRet.freeze hv al kR ?_;intro h9 le10 hv;refine DoRet.r2 (.cell rfl (qx (r := [v]) ag_40 (kT kH) ab rfl rfl)) (.tmp rfl) (qh (zu (zu kS))) zl ?_;exact ⟨⟨v, R, rfl, hv, hR, by omega⟩, rfl⟩
structure StE where
 n : Nat
 tv : Value
 rv : Value
 hv : Value
 tags : List Tag
 regs : List Reg
 heads : List ID
def stC (s : StE) : List Value := [.int .i64 (s.n : Int), s.tv, s.rv, s.hv]
structure SR (h : GH) (s : StE) : Prop where
 tags : Sl h s.tv 33 (s.tags.map tagC)
 regs : Sl h s.rv 38 (s.regs.map regC)
 heads : RIds h s.hv s.heads
theorem SR.mono {h h' : GH} {s : StE} (hle : GH.le h h') (r : SR h s) : SR h' s := ⟨r.tags.mono hle, r.regs.mono hle, r.heads.mono hle⟩
structure StateOf (l : List Op) (s : StE) : Prop where
 n : s.n = l.length
 tags : TagsOf l s.tags
 regs : RegsOf l s.regs
 heads : HeadsOf l s.heads
 tl : s.tags.length ≤ 60
 rl : s.regs.length ≤ 60
theorem fold_of {c : World} {h : GH} {L : Own} {iv ov : Value} {xs : List (Op × Value)} (hg : GK h) (hi : RIds h iv ((fst1 xs).map idOf)) (ho : ROps h ov xs) (hG : GOk (fst1 xs)):
 Fun Tryz.prog c 10 #[gV iv ov] h L (fun u h' L' => (∃ s, u = .tuple #[.agg (stC s).toArray, .int .i64 0] ∧ SR h' s ∧ StateOf (fst1 xs) s) ∧ L = L') := by
 have hfl := fst1_len xs;have h60 : xs.length ≤ 60 := by have := hG.small; omega
 refine kF (N := 34) (args := [gV iv ov]) Tryz.func10 ?_;refine qo ae ?_;refine qg (box_at rfl ?_);intro p1 h2 le1 hp1;replace hg := hg.mono le1; replace hi := hi.mono le1; replace ho := ho.mono le1;refine qg (qa zc_42 ?_);intro b2;refine qg (qd (qo ae ?_));refine qg (qX ag_25 aa ag ?_);refine qg (qc (orset_of hg hi ho hG) ?_);rintro v9 h4 L_ le3 ⟨⟨zt, T, rfl, ht, hTO, hTl⟩, rfl⟩;replace hg := hg.mono le3; replace hi := hi.mono le3; replace ho := ho.mono le3; replace hp1 := hp1.mono le3;refine qg (qg (qg (qg (qa zc_37 ?_))));intro b4;refine qg (kB (l' := [zt]) si_37 ac ai (show ([zt] : List Value).all oneCell = true by simp [Sl.one ht]) kR ab rfl kR.symm ?_);refine qg (qd (qo ae ?_));refine qg (qg (neqB (fun c13 => ?_) (fun c13 => ?_)))
 ·
  omega
 ·
  refine qd (qo ae ?_);refine qg (qf fi_25_1 aa ?_);intro p16 hp16;refine qg (ql sc_23 aa ?_);refine qg (qm sl_23 ho.sl ?_);refine qg (qx (r := [zt]) ag_37 kH ab rfl ?_);refine qg (build_struct zc_42 pl_42 (qy ac (qy ac Parts.nil)) rfl ?_);refine qg (qa zc_42 ?_);intro b6;refine qg (kB (l' := [.int .i64 (xs.length : Int), zt, .slice none 0 0, .slice none 0 0]) si_42 ac ai (show ([_, zt, _, _] : List Value).all oneCell = true by simp only [List.all_cons, List.all_nil, Sl.one ht]; rfl) kR ab rfl kR.symm ?_);refine qd (qo ae ?_);refine qg (qX ag_25 aa ag ?_);refine qg (qc (lww_of hg hi ho hG) ?_);rintro v23 h6 L_ le5 ⟨⟨zr, R, rfl, hr, hRO, hRl⟩, rfl⟩;replace hg := hg.mono le5; replace hi := hi.mono le5; replace ho := ho.mono le5; replace hp1 := hp1.mono le5; replace ht := ht.mono le5;refine qg (qg (qg (qg (qw fi_42_2 ?_))));refine qg (kB (l' := [.int .i64 (xs.length : Int), zt, zr, .slice none 0 0]) si_40 ac ai (show ([zr] : List Value).all oneCell = true by simp [Sl.one hr]) kR ab rfl kR.symm ?_);refine qd (qo ae ?_);refine qg (qX ag_25 aa ag ?_);refine qg (qc (anc_heads hg hi ho hG) ?_);rintro v29 h8 L_ le7 ⟨N29, rfl, zh, hs, rfl, hzh, hHO⟩;replace ht := ht.mono le7; replace hr := hr.mono le7;refine qg (qg (qg (qg (qw fi_42_3 ?_))));refine qg (kB (l' := [.int .i64 (xs.length : Int), zt, zr, zh]) si_22 ac ai ad ((za kR).trans zm) ab rfl ((za kR).trans zm).symm ?_);refine qd (qo ae ?_);refine qg (qx (r := [.int .i64 (xs.length : Int), zt, zr, zh]) ag_42 (zq kH) ab rfl ?_);refine qg (kB (l' := [.int .i64 (xs.length : Int), zt, zr, zh]) si_42 ac ai (show ([_, zt, zr, zh] : List Value).all oneCell = true by simp only [List.all_cons, List.all_nil, Sl.one ht, Sl.one hr, OS.one hzh]; rfl) ((za ((zc ((zc kR).trans zw)).trans zw)).trans zm) ab rfl ((za ((zc ((zc kR).trans zw)).trans zw)).trans zm).symm ?_);refine qg (qd ?_);refine DoRet.freeze hzh (by rw [List.length_map]; have h1 := hHO.sub.length_le; rw [List.length_map, hfl] at h1; omega) kR ?_;intro h9 le10 hzh;replace ht := ht.mono le10; replace hr := hr.mono le10;refine DoRet.r2 (.cell rfl (qx (r := [.int .i64 (xs.length : Int), zt, zr, zh]) ag_42 (kT (kT kH)) ab rfl rfl)) (.tmp rfl) (qh (zu (zu (zu kS)))) zl ?_;exact ⟨⟨⟨xs.length, zt, zr, zh, T, R, hs⟩, rfl, ⟨ht, hr, hzh⟩, ⟨hfl.symm, hTO, hRO, hHO, hTl, hRl⟩⟩, rfl⟩
end Go.Brd
namespace Go.Brd
open Go Go.Brd Go.Proofs
set_option linter.unusedVariables false
def keptL (l other known : List ID) : List ID := l.filter fun z => decide (z ∈ other) || !decide (z ∈ known)
theorem keptL_snoc {l other known : List ID} {k : Nat} {x : ID} (hx : l[k]? = some x) : keptL (l.take (k + 1)) other known = keptL (l.take k) other known ++ (if decide (x ∈ other) || !decide (x ∈ known) then [x] else []) := by
 unfold keptL;rw [takeS hx, List.filter_append];congr 1
 simp only [List.filter_cons, List.filter_nil]
theorem keptL_len (l other known : List ID) : (keptL l other known).length ≤ l.length := List.length_filter_le _ _
structure SortOf (l R : List ID) : Prop where
 ris : R.Pairwise fun a b => Lib.compareBytes a b < 0
 mem : ∀ z, z ∈ R ↔ z ∈ l
theorem sortOf_len {l R : List ID} (h : SortOf l R) : R.length ≤ l.length := by
 have hn : R.Nodup := h.ris.imp fun {a b} h e => by rw [e, cmp_id_iff.2 rfl] at h; omega
 exact List.Nodup.length_le_of_subset hn (fun z hz => (h.mem z).1 hz)
theorem ris_at {R : List ID} (hs : R.Pairwise fun a b => Lib.compareBytes a b < 0) {i j : Nat} {a b : ID} (hij : i < j) (hi : R[i]? = some a) (hj : R[j]? = some b) : Lib.compareBytes a b < 0 := by
 obtain ⟨h1, e1⟩ := List.getElem?_eq_some_iff.1 hi;obtain ⟨h2, e2⟩ := List.getElem?_eq_some_iff.1 hj;have := List.pairwise_iff_getElem.1 hs i j h1 h2 hij;rw [e1, e2] at this; exact this
theorem ins_at {R : List ID} {x : ID} (hs : R.Pairwise fun a b => Lib.compareBytes a b < 0) {k : Nat} (hlo : ∀ j y, j < k → R[j]? = some y → Lib.compareBytes y x < 0) (hhi : ∀ y, R[k]? = some y → Lib.compareBytes x y < 0) : (R.take k ++ [x] ++ R.drop k).Pairwise fun a b => Lib.compareBytes a b < 0 := by
 have hmt : ∀ a ∈ R.take k, Lib.compareBytes a x < 0 := fun a ha => by
  obtain ⟨j, hj, e⟩ := List.getElem_of_mem ha;rw [List.length_take] at hj;exact hlo j a af (by rw [← e, List.getElem_take, List.getElem?_eq_getElem af])
 have hmd : ∀ b ∈ R.drop k, Lib.compareBytes x b < 0 := fun b hb => by
  obtain ⟨j, hj, e⟩ := List.getElem_of_mem hb;rw [List.length_drop] at hj;have hbj : R[k + j]? = some b := by rw [← e, List.getElem_drop, List.getElem?_eq_getElem af]
  by_cases hj0 : j = 0
  · subst hj0; exact hhi b hbj
  · obtain ⟨y, hy⟩ : ∃ y, R[k]? = some y := ⟨R[k]'af, List.getElem?_eq_getElem _⟩
    exact cmp_trans (hhi y hy) (ris_at hs af hy hbj)
 rw [List.pairwise_append, List.pairwise_append];refine ⟨⟨hs.sublist (List.take_sublist k R), by simp, fun a ha b hb => ?_⟩, hs.sublist (List.drop_sublist k R), fun a ha b hb => ?_⟩
 · have : b = x := by simpa using hb
   rw [this]; exact hmt a ha
 · rcases List.mem_append.1 ha with ha | ha
   · exact cmp_trans (hmt a ha) (hmd b hb)
   · have : a = x := by simpa using ha
     rw [this]; exact hmd b hb
theorem sortOf_ins {l R : List ID} {i k : Nat} {x : ID} (hx : l[i]? = some x) (h : SortOf (l.take i) R) (hlo : ∀ j y, j < k → R[j]? = some y → Lib.compareBytes y x < 0) (hhi : ∀ y, R[k]? = some y → Lib.compareBytes x y < 0) : SortOf (l.take (i + 1)) (R.take k ++ [x] ++ R.drop k) :=
 ⟨ins_at h.ris hlo hhi, fun z => by
  rw [takeS hx];simp only [List.mem_append, ← h.mem z]
  conv => rhs; rw [← List.take_append_drop k R]
  simp only [List.mem_append];constructor
  · rintro ((h | h) | h)
    · exact .inl (.inl h)
    · exact .inr h
    · exact .inl (.inr h)
  · rintro ((h | h) | h)
    · exact .inl (.inl h)
    · exact .inr h
    · exact .inl (.inr h)⟩
theorem sortOf_dup {l R : List ID} {i k : Nat} {x : ID} (hx : l[i]? = some x) (h : SortOf (l.take i) R) (hk : R[k]? = some x) : SortOf (l.take (i + 1)) R :=
 ⟨h.ris, fun z => by
  rw [takeS hx, List.mem_append, List.mem_singleton, ← h.mem z];exact ⟨.inl, fun e => e.elim id fun e => by rw [e]; exact List.mem_of_getElem? hk⟩⟩
theorem SortOf.uniq {l R R' : List ID} (h : R.Pairwise fun a b => Lib.compareBytes a b < 0) (h' : SortOf l R') (hm : ∀ z, z ∈ R ↔ z ∈ l) : R = R' := by
 have e : ∀ {A B : List ID}, A.Pairwise (fun a b => Lib.compareBytes a b < 0) → B.Pairwise (fun a b => Lib.compareBytes a b < 0) → (∀ z, z ∈ A ↔ z ∈ B) → A = B := by
  intro A
  induction A with
  | nil => intro B _ _ hm; cases B with
   | nil => rfl
   | cons b B => exact absurd ((hm b).2 am) am
  | cons a A ih =>
   intro B hA hB hm;cases B with
   | nil => exact absurd ((hm a).1 am) am
   | cons b B =>
    have hA1 := List.pairwise_cons.1 hA;have hB1 := List.pairwise_cons.1 hB;have irr : ∀ x : ID, ¬ Lib.compareBytes x x < 0 := fun x h => by rw [cmp_id_iff.2 rfl] at h; omega
    have hab : a = b := by
     rcases List.mem_cons.1 ((hm a).1 am) with h | h
     · exact h
     · rcases List.mem_cons.1 ((hm b).2 am) with h2 | h2
       · exact h2.symm
       · exact absurd (cmp_trans (hA1.1 b h2) (hB1.1 a h)) (irr a)
    subst hab;congr 1
    refine ih hA1.2 hB1.2 fun z => ⟨fun hz => ?_, fun hz => ?_⟩
    · rcases List.mem_cons.1 ((hm z).1 (by simp [hz])) with h | h
      · rw [h] at hz; exact absurd (hA1.1 a hz) (irr a)
      · exact h
    · rcases List.mem_cons.1 ((hm z).2 (by simp [hz])) with h | h
      · rw [h] at hz; exact absurd (hB1.1 a hz) (irr a)
      · exact h
 exact e h h'.ris (fun z => (hm z).trans (h'.mem z).symm)
theorem top_keptw {c : World} {h : GH} {L : Own} {v1 v2 v3 : Value} {l other known : List ID} (hl : RIds h v1 l) (ho : RIds h v2 other) (hn : RIds h v3 known) (h100 : l.length ≤ 100):
 Fun Tryz.prog c 11 #[v1, v2, v3] h L (fun u _ L' => ∃ N, L' = N ++ L ∧ OS 74 32 u ((keptL l other known).map idC) N) := by
 have h32 := hl.len32;refine kF (N := 31) (args := [v1, v2, v3]) Tryz.func11 ?_;refine qo ae ?_;refine qg (qd (qo ae ?_));refine qg (qd (qo ae ?_));refine qg (qg (qm sl_22 hl ?_));refine qg (qd ?_);refine qL (fun s0 nn s' h' L' => ∃ (k : Nat) (v : Value) (N : Own), s' = [(7, v), (12, .int .i64 k)] ++ qR s0 [1, 2, 10, 11] ∧ nn = l.length - k ∧ N ++ L = L' ∧ k ≤ l.length ∧ OS 74 32 v ((keptL (l.take k) other known).map idC) N) ⟨0, _, [], rfl, rfl, rfl, ?_⟩ zg zl zn ?_
 · exact ⟨Nat.zero_le _, OS.nil _ _⟩
 rintro nn s1 h1 L_ le2 ⟨k, v, N, rfl, rfl, rfl, hk, hv⟩;replace hl := hl.mono le2; replace ho := ho.mono le2; replace hn := hn.mono le2;refine qo ae ?_;refine qg (lssB (fun c13 => ?_) (fun c13 => ?_))
 ·
  have hkl : k < l.length := by omega
  obtain ⟨x, hx⟩ := qE hkl;have hx32 := h32 x (List.mem_of_getElem? hx);have hcl : (idC x).length = 32 := by rw [idC_length, hx32]
  have hss := keptL_snoc (other := other) (known := known) hx;have hkl2 := keptL_len (l.take k) other known;rw [List.length_take] at hkl2;refine qd (qo ae ?_);refine qg (qi (k := k) sl_22 aa rfl hx ?_);intro p14 r14 hl14 hp14;refine qg (qP ag_74 aa aa ?_);refine qg (qa zc_74 ?_);intro b9;refine qg (kB (l' := idC x) si_74 ac hcl (idC_one _) kR ab (over_all (by rw [hcl, List.length_replicate])) kR.symm ?_);refine qd (qo ae ?_);refine qg (qg (qx (r := idC x) ag_74 kH (by rw [hcl]; decide) (by rw [List.drop_zero, List.take_of_length_le (by rw [hcl]; decide)]) ?_));refine qg (qc (contains_id ho hcl) ?_);rintro v18 h4 L_ le3 ⟨rfl, rfl⟩;replace hn := hn.mono le3;cases hb18 : decide (x ∈ other)
  ·
   refine qg (kG rfl rfl ?_);refine kG rfl rfl ?_;refine qx (r := idC x) ag_74 kH (by rw [hcl]; decide) (by rw [List.drop_zero, List.take_of_length_le (by rw [hcl]; decide)]) ?_;refine kG rfl rfl ?_;refine qc (contains_id hn hcl) ?_;rintro v22 h6 L_ le5 ⟨rfl, rfl⟩;cases hb22 : decide (x ∈ known)
   ·
    refine kG rfl rfl ?_;refine not_ff ?_;refine qg (qd (qo ae ?_));refine qg (qg (qx (r := idC x) ag_74 kH (by rw [hcl]; decide) (by rw [List.drop_zero, List.take_of_length_le (by rw [hcl]; decide)]) ?_));refine qg (qB sl_22 z_74 rfl ag ah (idC_one _) ?_);intro v27 h8 le7 hv27;refine qg (qp sl_22 sl_22 z_74 aa aa ((zc kR).trans zm.symm) (by rw [List.length_map]; simp; omega) ?_);intro v28 N28 hv28;refine ⟨_, ((zc kR).trans zm.symm).symm, ?_⟩;refine qg (qd (qo ae ?_));refine qg (qA ak ?_);refine qg (qd ?_);exact back (m := _) ⟨k + 1, v28, N28, rfl, rfl, rfl, by omega, by rw [hss, hb18, hb22]; simp only [Bool.or_true, Bool.true_or, Bool.not_false, Bool.or_false, if_true, List.map_append]; exact hv28⟩ af (qh (zu (List.Sublist.append_left kS _))) zl zn
   ·
    refine kG rfl rfl ?_;refine not_tt ?_;refine qg (qd (qo ae ?_));refine qg (qA ak ?_);refine qg (qd ?_);exact back (m := _) ⟨k + 1, v, N, rfl, rfl, rfl, by omega, by rw [hss, hb18, hb22]; simpa using hv⟩ af (qh (zu (List.Sublist.append_left kS _))) zl zn
  ·
   refine qg (qk rfl rfl ?_);refine qk rfl rfl ?_;refine qk rfl rfl ?_;refine qk rfl rfl ?_;refine qg (qd (qo ae ?_));refine qg (qg (qx (r := idC x) ag_74 kH (by rw [hcl]; decide) (by rw [List.drop_zero, List.take_of_length_le (by rw [hcl]; decide)]) ?_));refine qg (qB sl_22 z_74 rfl ag ah (idC_one _) ?_);intro v27 h10 le9 hv27;refine qg (qp sl_22 sl_22 z_74 aa aa ((zc kR).trans zm.symm) (by rw [List.length_map]; simp; omega) ?_);intro v28 N28 hv28;refine ⟨_, ((zc kR).trans zm.symm).symm, ?_⟩;refine qg (qd (qo ae ?_));refine qg (qA ak ?_);refine qg (qd ?_);exact back (m := _) ⟨k + 1, v28, N28, rfl, rfl, rfl, by omega, by rw [hss, hb18]; simp only [Bool.or_true, Bool.true_or, Bool.not_false, Bool.or_false, if_true, List.map_append]; exact hv28⟩ af (qh (zu (List.Sublist.append_left kS _))) zl zn
 ·
  refine qd (qo ae ?_);refine qg (qg (qd ?_));refine DoRet.r1 (.tmp rfl) (qh (List.Sublist.append_left kS _)) zl ?_;have hke : k = l.length := by omega
  rw [hke, List.take_length] at hv;exact ⟨N, rfl, hv⟩
theorem ref_sorted {c : World} {h : GH} {L : Own} {v1 : Value} {l : List ID} (hl : RIds h v1 l) (h200 : l.length ≤ 200):
 Fun Tryz.prog c 13 #[v1] h L (fun u _ L' => ∃ N, L' = N ++ L ∧ ∃ R, OS 74 32 u (R.map idC) N ∧ SortOf l R) := by
 have h32 := hl.len32;refine kF (N := 61) (args := [v1]) Tryz.func13 ?_;refine qo ae ?_;refine qg (qd (qo ae ?_));refine qg (qd (qo ae ?_));refine qg (qd ?_);refine qL (fun s0 nn s' h' L' => ∃ (i : Nat) (v : Value) (N : Own) (R : List ID), s' = [(3, v), (4, .int .i64 i)] ++ qR s0 [0] ∧ nn = l.length - i ∧ N ++ L = L' ∧ i ≤ l.length ∧ OS 74 32 v (R.map idC) N ∧ SortOf (l.take i) R) ⟨0, _, [], [], rfl, rfl, rfl, ?_⟩ zg zl zn ?_
 · exact ⟨Nat.zero_le _, OS.nil _ _, List.Pairwise.nil, fun z => by simp⟩
 rintro nn s1 h1 L_ le2 ⟨i, v, N, R, rfl, rfl, rfl, hi, hv, hR⟩;replace hl := hl.mono le2;refine qo ae ?_;refine qg (qg (qg (qm sl_22 hl ?_)));refine qg (lssB (fun c9 => ?_) (fun c9 => ?_))
 ·
  have hil : i < l.length := by omega
  obtain ⟨x, hx⟩ := qE hil;have hx32 := h32 x (List.mem_of_getElem? hx);have hcl : (idC x).length = 32 := by rw [idC_length, hx32]
  have hRl := sortOf_len hR;rw [List.length_take] at hRl;have hR32 : ∀ z ∈ R, z.length = 32 := fun z hz => h32 z (List.mem_of_mem_take ((hR.mem z).1 hz))
  refine qd (qo ae ?_);refine qg (qd ?_);refine qL (fun s0 nn s' h' L' => ∃ (k : Nat), s' = [(5, .int .i64 k)] ++ qR s0 [0, 3, 4] ∧ nn = R.length - k ∧ N ++ L = L' ∧ k ≤ R.length ∧ ∀ j y, j < k → R[j]? = some y → Lib.compareBytes y x < 0) ⟨0, rfl, rfl, rfl, ?_⟩ zg zl zn ?_
  · exact ⟨Nat.zero_le _, fun j y hj => absurd hj (Nat.not_lt_zero j)⟩
  rintro nn s1 h3 L_ le4 ⟨k, rfl, rfl, rfl, hk, hlo⟩;replace hl := hl.mono le4;refine qD mixed [] [0, 1, 2, 3, 4, 5, 6, 7, 8, 9, 10, 11, 12, 13, 14, 15] (N ++ []) ae (sub_app (fun e he => (List.mem_append_left _ he)) sub_nil) ?_;refine qr rfl rfl rfl (qr rfl rfl rfl (qr rfl rfl rfl (len_os sl_22 hv ?_)));refine qr rfl rfl rfl (lssB (fun c15 => ?_) (fun c15 => ?_))
  ·
   rw [List.length_map] at c15;have hkl : k < R.length := by omega
   obtain ⟨y, hy⟩ := qE hkl;have hyl : (idC y).length = 32 := by rw [idC_length]; exact hR32 y (List.mem_of_getElem? hy)
   refine qr rfl rfl rfl (DoDr.rdT rfl rfl rfl rfl rfl ?_);refine DoDr.rdT rfl rfl rfl rfl rfl ?_;refine DoDr.rdT rfl rfl rfl rfl rfl ?_;refine index_os (k := k) sl_22 aa rfl (by rw [List.length_map]; exact hkl) ?_;intro p19 hp19;refine DoDr.rdT rfl rfl rfl rfl rfl ?_;refine load_osX (r := idC y) ag_74 aa aa (fun e he => (List.mem_append_left _ he)) (map_get hy) (by rw [hyl]; exact Nat.le_refl _) (by rw [List.drop_zero, List.take_of_length_le (by rw [hyl]; exact Nat.le_refl _)]) ?_;refine DoDr.rdT rfl rfl rfl rfl rfl ?_;refine DoDr.rdT rfl rfl rfl rfl rfl ?_;refine DoDr.rdT rfl rfl rfl rfl rfl ?_;refine qi (k := i) sl_22 aa rfl hx ?_;intro p23 r23 hl23 hp23;refine DoDr.rdT rfl rfl rfl rfl rfl ?_;refine qP ag_74 hp23 hcl ?_;refine DoDr.efT rfl rfl rfl rfl rfl ?_;refine qc (ref_cmp hyl hcl) ?_;rintro v25 h6 L_ le5 ⟨rfl, rfl⟩;replace hl := hl.mono le5;refine ⟨(sub_app (fun e he => (List.mem_append_left _ he)) sub_nil), ?_⟩;refine DoDr.rdT rfl rfl rfl rfl rfl ?_;refine lssB (fun c26 => ?_) (fun c26 => ?_)
   ·
    refine qr rfl rfl rfl (qe zf ?_);refine qo ae ?_;refine qg (qg (qA ak ?_));refine qg (qd ?_)
    exact back (m := _) ⟨k + 1, rfl, rfl, rfl, by omega, fun j z hj hz => by
     rcases Nat.lt_or_ge j k with h1 | h1
     · exact hlo j z h1 hz
     · have : j = k := by omega
       subst this; rw [hy] at hz; cases hz; exact c26⟩ af zg zl zn
   ·
    refine qr rfl rfl rfl (qe zf ?_);refine qD mixed [] [0, 1, 2, 3, 4, 5, 6, 7, 8, 9, 10, 11, 12, 13, 14] (N ++ []) ae (sub_app (fun e he => (List.mem_append_left _ he)) sub_nil) ?_;refine qr rfl rfl rfl (qr rfl rfl rfl (qr rfl rfl rfl (len_os sl_22 hv ?_)));refine qr rfl rfl rfl (eqlB (fun c33 => ?_) (fun c33 => ?_))
    ·
     rw [List.length_map] at c33; omega
    ·
     refine qr rfl rfl rfl (DoDr.rdF rfl rfl rfl rfl rfl ?_);refine DoDr.rdF rfl rfl rfl rfl rfl ?_;refine DoDr.rdF rfl rfl rfl rfl rfl ?_;refine index_os (k := k) sl_22 aa rfl (by rw [List.length_map]; exact hkl) ?_;intro p37 hp37;refine DoDr.rdF rfl rfl rfl rfl rfl ?_;refine load_osX (r := idC y) ag_74 aa aa (fun e he => (List.mem_append_left _ he)) (map_get hy) (by rw [hyl]; exact Nat.le_refl _) (by rw [List.drop_zero, List.take_of_length_le (by rw [hyl]; exact Nat.le_refl _)]) ?_;refine DoDr.rdF rfl rfl rfl rfl rfl ?_;refine DoDr.rdF rfl rfl rfl rfl rfl ?_;refine DoDr.rdF rfl rfl rfl rfl rfl ?_;refine qi (k := i) sl_22 aa rfl hx ?_;intro p41 r41 hl41 hp41;refine DoDr.rdF rfl rfl rfl rfl rfl ?_;refine qP ag_74 hp41 hcl ?_;refine DoDr.rdF rfl rfl rfl rfl rfl ?_;refine neqI sh_id ia_id ef_id aa aa (fun c43 => ?_) (fun c43 => ?_)
     ·
      refine qr rfl rfl rfl (qe zf ?_);refine DoDraw.freeze hv al kR ?_;intro h7 le8 hv;replace hl := hl.mono le8;refine DoDraw.cutP (fun s0 s' h' L' => ∃ (v2 : Value) (N2 : Own), s' = [(3, v2)] ++ qR s0 [0, 4] ∧ L'.Perm (N2 ++ L) ∧ OS 74 32 v2 ((R.take k ++ [x] ++ R.drop k).map idC) N2) ?_ ?_
      ·
       refine DoDraw.intros mixed [1, 2, 3, 5, 6, 7, 8, 11, 12, 13, 0, 4, 9, 10, 14, 15] [[1, 2, 3, 5, 6, 7, 8, 11, 12, 13, 0, 9, 4, 10, 14, 15], [1, 2, 3, 5, 6, 7, 8, 11, 12, 13, 9, 0, 4, 10, 14, 15]] [] ae am (fcons ?_ (fcons ?_ (fcons ?_ fnil)))
       ·
        refine slice_sl_hi (hi := k) sl_22 aa af al ?_;intro v48 hv48
        try rw [← List.map_take] at hv48
        try rw [← List.map_drop] at hv48
        refine qi (k := i) sl_22 aa rfl hx ?_;intro p52 r52 hl52 hp52;refine qP ag_74 hp52 hcl ?_;refine slice_sl_lo (lo := k) sl_22 aa af al ?_;intro v58 hv58
        try rw [← List.map_take] at hv58
        try rw [← List.map_drop] at hv58
        refine buildSlice0 sl_22 ?_;intro v45 N45 hv45;refine ⟨am, ?_⟩;refine qp sl_22 sl_22 z_74 aa aa kR ar ?_;intro v49 N49 hv49;refine ⟨_, kR.symm, ?_⟩;refine ⟨am, ?_⟩;refine qB sl_22 z_74 rfl ag ah (idC_one _) ?_;intro v54 h10 le9 hv54;replace hv58 := hv58.mono le9;refine ⟨am, ?_⟩;refine qp sl_22 sl_22 z_74 aa aa kR ar ?_;intro v55 N55 hv55;refine ⟨_, kR.symm, ?_⟩;refine ⟨am, ?_⟩;refine qp sl_22 sl_22 z_74 aa aa kR ar ?_;intro v59 N59 hv59;refine ⟨_, kR.symm, ?_⟩;refine ⟨am, ?_⟩;exact ⟨_, zn, _, _, rfl, (kR.trans (za kR)), by rw [List.map_append, List.map_append]; exact hv59⟩
       ·
        refine slice_sl_hi (hi := k) sl_22 aa af al ?_;intro v48 hv48
        try rw [← List.map_take] at hv48
        try rw [← List.map_drop] at hv48
        refine qi (k := i) sl_22 aa rfl hx ?_;intro p52 r52 hl52 hp52;refine qP ag_74 hp52 hcl ?_;refine slice_sl_lo (lo := k) sl_22 aa af al ?_;intro v58 hv58
        try rw [← List.map_take] at hv58
        try rw [← List.map_drop] at hv58
        refine buildSlice0 sl_22 ?_;intro v45 N45 hv45;refine ⟨am, ?_⟩;refine qB sl_22 z_74 rfl ag ah (idC_one _) ?_;intro v54 h12 le11 hv54;replace hv48 := hv48.mono le11; replace hv58 := hv58.mono le11;refine ⟨am, ?_⟩;refine qp sl_22 sl_22 z_74 aa aa kR ar ?_;intro v49 N49 hv49;refine ⟨_, kR.symm, ?_⟩;refine ⟨am, ?_⟩;refine qp sl_22 sl_22 z_74 aa aa kR ar ?_;intro v55 N55 hv55;refine ⟨_, kR.symm, ?_⟩;refine ⟨am, ?_⟩;refine qp sl_22 sl_22 z_74 aa aa kR ar ?_;intro v59 N59 hv59;refine ⟨_, kR.symm, ?_⟩;refine ⟨am, ?_⟩;exact ⟨_, zn, _, _, rfl, (kR.trans (za kR)), by rw [List.map_append, List.map_append]; exact hv59⟩
       ·
        refine slice_sl_hi (hi := k) sl_22 aa af al ?_;intro v48 hv48
        try rw [← List.map_take] at hv48
        try rw [← List.map_drop] at hv48
        refine qi (k := i) sl_22 aa rfl hx ?_;intro p52 r52 hl52 hp52;refine qP ag_74 hp52 hcl ?_;refine slice_sl_lo (lo := k) sl_22 aa af al ?_;intro v58 hv58
        try rw [← List.map_take] at hv58
        try rw [← List.map_drop] at hv58
        refine qB sl_22 z_74 rfl ag ah (idC_one _) ?_;intro v54 h14 le13 hv54;replace hv48 := hv48.mono le13; replace hv58 := hv58.mono le13;refine ⟨am, ?_⟩;refine buildSlice0 sl_22 ?_;intro v45 N45 hv45;refine ⟨am, ?_⟩;refine qp sl_22 sl_22 z_74 aa aa kR ar ?_;intro v49 N49 hv49;refine ⟨_, kR.symm, ?_⟩;refine ⟨am, ?_⟩;refine qp sl_22 sl_22 z_74 aa aa kR ar ?_;intro v55 N55 hv55;refine ⟨_, kR.symm, ?_⟩;refine ⟨am, ?_⟩;refine qp sl_22 sl_22 z_74 aa aa kR ar ?_;intro v59 N59 hv59;refine ⟨_, kR.symm, ?_⟩;refine ⟨am, ?_⟩;exact ⟨_, zn, _, _, rfl, (kR.trans (za kR)), by rw [List.map_append, List.map_append]; exact hv59⟩
      ·
       rintro s1 h15 L_ le16 ⟨v2, N2, rfl, hpm, hv2⟩;refine ⟨_, hpm, ?_⟩;refine qo ae ?_;refine qg (qg (qA ak ?_));refine qg (qd ?_);have hxy : Lib.compareBytes x y < 0 := cmp_total c26 c43;exact back (m := _) ⟨i + 1, v2, N2, _, rfl, rfl, rfl, by omega, hv2, sortOf_ins hx hR hlo (fun z hz => by rw [hy] at hz; cases hz; exact hxy)⟩ af zg zl zn
     ·
      refine qr rfl rfl rfl (qe zf ?_);refine qo ae ?_;refine qg (qg (qA ak ?_));refine qg (qd ?_);exact back (m := _) ⟨i + 1, v, N, R, rfl, rfl, rfl, by omega, hv, sortOf_dup hx hR (by rw [hy, c43])⟩ af zg zl zn
  ·
   rw [List.length_map] at c15;have hke : k = R.length := by omega
   refine qr rfl rfl rfl (DoDr.skipT rfl rfl rfl rfl ?_);refine DoDr.skipT rfl rfl rfl rfl ?_;refine DoDr.skipT rfl rfl rfl rfl ?_;refine DoDr.skipT rfl rfl rfl rfl ?_;refine DoDr.skipT rfl rfl rfl rfl ?_;refine DoDr.skipT rfl rfl rfl rfl ?_;refine DoDr.skipT rfl rfl rfl rfl ?_;refine DoDr.skipT rfl rfl rfl rfl ?_;refine DoDr.skipT rfl rfl rfl rfl ?_;refine DoDr.skipT rfl rfl rfl rfl ?_;refine qr rfl rfl rfl (qe zf ?_);refine qD mixed [] [0, 1, 2, 3, 4, 5, 6, 7, 8, 9, 10, 11, 12, 13, 14] (N ++ []) ae (sub_app (fun e he => (List.mem_append_left _ he)) sub_nil) ?_;refine qr rfl rfl rfl (qr rfl rfl rfl (qr rfl rfl rfl (len_os sl_22 hv ?_)));refine qr rfl rfl rfl (eqlB (fun c33 => ?_) (fun c33 => ?_))
   ·
    refine qr rfl rfl rfl (DoDr.skipF rfl rfl rfl rfl ?_);refine DoDr.skipF rfl rfl rfl rfl ?_;refine DoDr.skipF rfl rfl rfl rfl ?_;refine DoDr.skipF rfl rfl rfl rfl ?_;refine DoDr.skipF rfl rfl rfl rfl ?_;refine DoDr.skipF rfl rfl rfl rfl ?_;refine DoDr.skipF rfl rfl rfl rfl ?_;refine DoDr.skipF rfl rfl rfl rfl ?_;refine DoDr.skipF rfl rfl rfl rfl ?_;refine qr rfl rfl rfl (qe zf ?_);refine DoDraw.freeze hv al kR ?_;intro h17 le18 hv;replace hl := hl.mono le18;refine DoDraw.cutP (fun s0 s' h' L' => ∃ (v2 : Value) (N2 : Own), s' = [(3, v2)] ++ qR s0 [0, 4] ∧ L'.Perm (N2 ++ L) ∧ OS 74 32 v2 ((R.take k ++ [x] ++ R.drop k).map idC) N2) ?_ ?_
    ·
     refine DoDraw.intros mixed [1, 2, 3, 5, 6, 7, 8, 11, 12, 13, 0, 4, 9, 10, 14, 15] [[1, 2, 3, 5, 6, 7, 8, 11, 12, 13, 0, 9, 4, 10, 14, 15], [1, 2, 3, 5, 6, 7, 8, 11, 12, 13, 9, 0, 4, 10, 14, 15]] [] ae am (fcons ?_ (fcons ?_ (fcons ?_ fnil)))
     ·
      refine slice_sl_hi (hi := k) sl_22 aa af al ?_;intro v48 hv48
      try rw [← List.map_take] at hv48
      try rw [← List.map_drop] at hv48
      refine qi (k := i) sl_22 aa rfl hx ?_;intro p52 r52 hl52 hp52;refine qP ag_74 hp52 hcl ?_;refine slice_sl_lo (lo := k) sl_22 aa af al ?_;intro v58 hv58
      try rw [← List.map_take] at hv58
      try rw [← List.map_drop] at hv58
      refine buildSlice0 sl_22 ?_;intro v45 N45 hv45;refine ⟨am, ?_⟩;refine qp sl_22 sl_22 z_74 aa aa kR ar ?_;intro v49 N49 hv49;refine ⟨_, kR.symm, ?_⟩;refine ⟨am, ?_⟩;refine qB sl_22 z_74 rfl ag ah (idC_one _) ?_;intro v54 h20 le19 hv54;replace hv58 := hv58.mono le19;refine ⟨am, ?_⟩;refine qp sl_22 sl_22 z_74 aa aa kR ar ?_;intro v55 N55 hv55;refine ⟨_, kR.symm, ?_⟩;refine ⟨am, ?_⟩;refine qp sl_22 sl_22 z_74 aa aa kR ar ?_;intro v59 N59 hv59;refine ⟨_, kR.symm, ?_⟩;refine ⟨am, ?_⟩;exact ⟨_, zn, _, _, rfl, (kR.trans (za kR)), by rw [List.map_append, List.map_append]; exact hv59⟩
     ·
      refine slice_sl_hi (hi := k) sl_22 aa af al ?_;intro v48 hv48
      try rw [← List.map_take] at hv48
      try rw [← List.map_drop] at hv48
      refine qi (k := i) sl_22 aa rfl hx ?_;intro p52 r52 hl52 hp52;refine qP ag_74 hp52 hcl ?_;refine slice_sl_lo (lo := k) sl_22 aa af al ?_;intro v58 hv58
      try rw [← List.map_take] at hv58
      try rw [← List.map_drop] at hv58
      refine buildSlice0 sl_22 ?_;intro v45 N45 hv45;refine ⟨am, ?_⟩;refine qB sl_22 z_74 rfl ag ah (idC_one _) ?_;intro v54 h22 le21 hv54;replace hv48 := hv48.mono le21; replace hv58 := hv58.mono le21;refine ⟨am, ?_⟩;refine qp sl_22 sl_22 z_74 aa aa kR ar ?_;intro v49 N49 hv49;refine ⟨_, kR.symm, ?_⟩;refine ⟨am, ?_⟩;refine qp sl_22 sl_22 z_74 aa aa kR ar ?_;intro v55 N55 hv55;refine ⟨_, kR.symm, ?_⟩;refine ⟨am, ?_⟩;refine qp sl_22 sl_22 z_74 aa aa kR ar ?_;intro v59 N59 hv59;refine ⟨_, kR.symm, ?_⟩;refine ⟨am, ?_⟩;exact ⟨_, zn, _, _, rfl, (kR.trans (za kR)), by rw [List.map_append, List.map_append]; exact hv59⟩
     ·
      refine slice_sl_hi (hi := k) sl_22 aa af al ?_;intro v48 hv48
      try rw [← List.map_take] at hv48
      try rw [← List.map_drop] at hv48
      refine qi (k := i) sl_22 aa rfl hx ?_;intro p52 r52 hl52 hp52;refine qP ag_74 hp52 hcl ?_;refine slice_sl_lo (lo := k) sl_22 aa af al ?_;intro v58 hv58
      try rw [← List.map_take] at hv58
      try rw [← List.map_drop] at hv58
      refine qB sl_22 z_74 rfl ag ah (idC_one _) ?_;intro v54 h24 le23 hv54;replace hv48 := hv48.mono le23; replace hv58 := hv58.mono le23;refine ⟨am, ?_⟩;refine buildSlice0 sl_22 ?_;intro v45 N45 hv45;refine ⟨am, ?_⟩;refine qp sl_22 sl_22 z_74 aa aa kR ar ?_;intro v49 N49 hv49;refine ⟨_, kR.symm, ?_⟩;refine ⟨am, ?_⟩;refine qp sl_22 sl_22 z_74 aa aa kR ar ?_;intro v55 N55 hv55;refine ⟨_, kR.symm, ?_⟩;refine ⟨am, ?_⟩;refine qp sl_22 sl_22 z_74 aa aa kR ar ?_;intro v59 N59 hv59;refine ⟨_, kR.symm, ?_⟩;refine ⟨am, ?_⟩;exact ⟨_, zn, _, _, rfl, (kR.trans (za kR)), by rw [List.map_append, List.map_append]; exact hv59⟩
    ·
     rintro s1 h25 L_ le26 ⟨v2, N2, rfl, hpm, hv2⟩;refine ⟨_, hpm, ?_⟩;refine qo ae ?_;refine qg (qg (qA ak ?_));refine qg (qd ?_);exact back (m := _) ⟨i + 1, v2, N2, _, rfl, rfl, rfl, by omega, hv2, sortOf_ins hx hR hlo (fun z hz => by have := (List.getElem?_eq_some_iff.1 hz).1; omega)⟩ af zg zl zn
   ·
    rw [List.length_map] at c33; omega
 ·
  refine qd (qo ae ?_);refine qg (qg (qd ?_));refine DoRet.r1 (.tmp rfl) (qh (List.Sublist.append_left kS _)) zl ?_;have hke : i = l.length := by omega
  rw [hke, List.take_length] at hR;exact ⟨N, rfl, R, hv, hR⟩
end Go.Brd
namespace Go.Brd
open Go Go.Brd Go.Proofs
set_option linter.unusedVariables false
theorem ef_tag : Tryz.prog.eqGuardType Tryz.prog.depth 97 = false := by kernel_rfl
theorem fit_tag {t : Tag} (hx : t.2.length = 32) : fitsL (.s :: List.replicate 32 (.i .u8)) (tagC t) = true := kt_tag.fit t hx
theorem tagC_inj {x y : Tag} (hx : x.2.length = 32) (hy : y.2.length = 32) (h : tagC x = tagC y) : x = y := kt_tag.inj x y hx hy h
def hasT (l : List Tag) (x : Tag) : Bool := l.any fun z => decide (z = x)
theorem hasT_iff {l : List Tag} {x : Tag} : hasT l x = true ↔ x ∈ l := by
 unfold hasT; rw [List.any_eq_true];constructor
 · rintro ⟨r, h1, h2⟩; rw [← of_decide_eq_true h2]; exact h1
 · intro h; exact ⟨x, h, decide_eq_true rfl⟩
def mergeT (X Y : List Tag) (A B : List ID) : List Tag := (X.filter fun t => hasT Y t || !decide (t.2 ∈ B)) ++ Y.filter fun t => !decide (t.2 ∈ A)
theorem filter_snoc {α : Type} {p : α → Bool} {l : List α} {k : Nat} {x : α} (hx : l[k]? = some x) : (l.take (k + 1)).filter p = (l.take k).filter p ++ (if p x then [x] else []) := by
 rw [takeS hx, List.filter_append];congr 1
 simp only [List.filter_cons, List.filter_nil]
theorem index_tag {c : World} {h : GH} {L : Own} {v : Value} {l : List Tag} {x : Tag} (hs : Sl h v 33 (l.map tagC)) (h32 : ∀ t ∈ l, t.2.length = 32) (hx : x.2.length = 32):
 Fun Tryz.prog c 80 #[v, .agg (tagC x).toArray] h L (fun u _ L' => (∃ i : Int, u = .int .i64 i ∧ (0 ≤ i ↔ x ∈ l)) ∧ L = L') := by
 have hsm := hs.small; rw [List.length_map] at hsm;have hxl : (tagC x).length = 33 := by rw [tagC_length, hx]
 refine kF (N := 19) (args := [v, .agg (tagC x).toArray]) Tryz.func80 ?_;refine qo ae ?_;refine qg (box_at rfl ?_);intro p3 h2 le1 hp3;replace hs := hs.mono le1;refine qg (qd (qo ae ?_));refine qg (qg (qm sl_35 hs ?_));refine qg (qd ?_);refine qL (fun s0 nn s' h' L' => ∃ (k : Nat), s' = [(8, .int .i64 k)] ++ qR s0 [0, 3, 7] ∧ nn = l.length - k ∧ L = L' ∧ k ≤ l.length ∧ ∀ (j : Nat) (t : Tag), j < k → l[j]? = some t → t ≠ x) ⟨0, rfl, rfl, rfl, ?_⟩ zg zl zn ?_
 · exact ⟨Nat.zero_le _, fun j t hj => absurd hj (Nat.not_lt_zero j)⟩
 rintro nn s1 h3 L_ le4 ⟨k, rfl, rfl, rfl, hk, hn⟩;replace hs := hs.mono le4; replace hp3 := hp3.mono le4;refine qo ae ?_;refine qg (lssB (fun c9 => ?_) (fun c9 => ?_))
 ·
  have hkl : k < l.length := by omega
  obtain ⟨y, hy⟩ := qE hkl;have hy32 := h32 y (List.mem_of_getElem? hy);have hyl : (tagC y).length = 33 := by rw [tagC_length, hy32]
  refine qd (qo ae ?_);refine qg (qg (qd ?_));refine qD mixed [] [0, 1, 2, 3, 4, 5] [] ae sub_nil ?_;refine qr rfl rfl rfl (qX ag_97 hp3 hxl ?_);refine qr rfl rfl rfl (qr rfl rfl rfl (qr rfl rfl rfl (qi (k := k) sl_35 hs rfl hy ?_)));intro p14 r14 hl14 hp14;refine qr rfl rfl rfl (qP ag_97 hp14 hyl ?_);refine qr rfl rfl rfl (eqlF ks_tag ia_tag ef_tag (fit_tag hx) (fit_tag hy32) (fun c16 => ?_) (fun c16 => ?_))
  ·
   refine qe zf ?_;refine qo ae ?_;refine qg (qg (qd ?_));refine ze rfl ?_;have e := tagC_inj hx hy32 c16;exact ⟨⟨_, rfl, ⟨fun _ => by rw [e]; exact List.mem_of_getElem? hy, fun _ => by omega⟩⟩, rfl⟩
  ·
   refine qe zf ?_;refine qo ae ?_;refine qg (qA ak ?_);refine qg (qd ?_)
   exact back (m := _) ⟨k + 1, rfl, rfl, rfl, by omega, fun j t hj ht => by
    rcases Nat.lt_or_ge j k with h1 | h1
    · exact hn j t h1 ht
    · have : j = k := by omega
      subst this; rw [hy] at ht; cases ht; exact fun e => c16 (by rw [e])⟩ af zg zl zn
 ·
  refine qd (qo ae ?_);refine qg (qd ?_);refine ze rfl ?_;have hke : k = l.length := by omega
  subst hke
  exact ⟨⟨_, rfl, ⟨fun e => absurd e af, fun hm => by
   obtain ⟨j, hj, e⟩ := List.getElem_of_mem hm;exact absurd e (hn j _ hj (List.getElem?_eq_getElem hj))⟩⟩, rfl⟩
theorem contains_tag {c : World} {h : GH} {L : Own} {v : Value} {l : List Tag} {x : Tag} (hs : Sl h v 33 (l.map tagC)) (h32 : ∀ t ∈ l, t.2.length = 32) (hx : x.2.length = 32):
 Fun Tryz.prog c 41 #[v, .agg (tagC x).toArray] h L (fun u _ L' => u = .bool (hasT l x) ∧ L = L') := by
 have hxl : (tagC x).length = 33 := by rw [tagC_length, hx]
 refine kF (N := 9) (args := [v, .agg (tagC x).toArray]) Tryz.func41 ?_;refine qo ae ?_;refine qg (box_at rfl ?_);intro p3 h2 le1 hp3;replace hs := hs.mono le1;refine qg (qd (qo ae ?_));refine qg (qg (qX ag_97 hp3 hxl ?_));refine qg (qc (index_tag hs h32 hx) ?_);rintro v7 h4 L_ le3 ⟨⟨i7, rfl, hi7⟩, rfl⟩;refine qg (geqB (fun c8 => ?_) (fun c8 => ?_))
 ·
  refine qg (qd ?_);refine ze rfl ?_;rw [hasT_iff.2 (hi7.1 af)]; exact ⟨rfl, rfl⟩
 ·
  refine qg (qd ?_);refine ze rfl ?_
  have e : hasT l x = false := by
   cases hh : hasT l x with
   | false => rfl
   | true => exact absurd (hi7.2 (hasT_iff.1 hh)) af
  rw [e]; exact ⟨rfl, rfl⟩
theorem top_tagsw {c : World} {h : GH} {L : Own} {xv yv ia oa ib ob : Value} {X Y : List Tag} {A B : List ID} (hX : Sl h xv 33 (X.map tagC)) (hY : Sl h yv 33 (Y.map tagC)) (hA : RIds h ia A) (hB : RIds h ib B) (hX32 : ∀ t ∈ X, t.2.length = 32) (hY32 : ∀ t ∈ Y, t.2.length = 32) (hXl : X.length ≤ 60) (hYl : Y.length ≤ 60) (hoa : oneCell oa = true) (hob : oneCell ob = true):
 Fun Tryz.prog c 15 #[.agg [xv].toArray, .agg [yv].toArray, gV ia oa, gV ib ob] h L (fun u h' L' => (∃ (z : Value) (T : List Tag), u = .agg #[z] ∧ Sl h' z 33 (T.map tagC) ∧ T.Perm (mergeT X Y A B) ∧ T.Pairwise (fun a b => ¬ tcmp b a < 0)) ∧ L = L') := by
 refine kF (N := 64) (args := [.agg [xv].toArray, .agg [yv].toArray, gV ia oa, gV ib ob]) Tryz.func15 ?_;refine qo ae ?_;refine qg (box_at rfl ?_);intro p4 h2 le1 hp4;replace hX := hX.mono le1; replace hY := hY.mono le1; replace hA := hA.mono le1; replace hB := hB.mono le1;refine qg (box_at rfl ?_);intro p5 h4 le3 hp5;replace hX := hX.mono le3; replace hY := hY.mono le3; replace hA := hA.mono le3; replace hB := hB.mono le3; replace hp4 := hp4.mono le3;refine qg (box_at rfl ?_);intro p6 h6 le5 hp6;replace hX := hX.mono le5; replace hY := hY.mono le5; replace hA := hA.mono le5; replace hB := hB.mono le5; replace hp4 := hp4.mono le5; replace hp5 := hp5.mono le5;refine qg (box_at rfl ?_);intro p7 h8 le7 hp7;replace hX := hX.mono le7; replace hY := hY.mono le7; replace hA := hA.mono le7; replace hB := hB.mono le7; replace hp4 := hp4.mono le7; replace hp5 := hp5.mono le7; replace hp6 := hp6.mono le7;refine qg (qa zc_37 ?_);intro b8;refine qd (qo ae ?_);refine qg (qa zc_37 ?_);intro b9;refine qd (qo ae ?_);refine qg (qf fi_37_0 aa ?_);intro p14 hp14;refine qg (ql (v := xv) sc_35 hp14 ?_);refine qg (qm sl_35 hX ?_);refine qg (qd ?_);refine qL (fun s0 nn s' h' L' => ∃ (k : Nat) (v : Value) (N : Own), s' = [(17, .int .i64 k)] ++ qR s0 [5, 6, 7, 8, 9, 15, 16] ∧ nn = X.length - k ∧ N ++ ((b9, .cells [v].toArray 37 (0, 0)) :: (b8, .cells [.slice none 0 0].toArray 37 (0, 0)) :: L) = L' ∧ k ≤ X.length ∧ OS 97 33 v (((X.take k).filter (fun t => hasT Y t || !decide (t.2 ∈ B))).map tagC) N) ⟨0, _, [], rfl, rfl, rfl, ?_⟩ zg zl zn ?_
 · exact ⟨Nat.zero_le _, OS.nil _ _⟩
 rintro nn s1 h9 L_ le10 ⟨k, v, N, rfl, rfl, rfl, hk, hv⟩;replace hX := hX.mono le10; replace hY := hY.mono le10; replace hA := hA.mono le10; replace hB := hB.mono le10; replace hp5 := hp5.mono le10; replace hp6 := hp6.mono le10; replace hp7 := hp7.mono le10;refine qo ae ?_;refine qg (lssB (fun c18 => ?_) (fun c18 => ?_))
 ·
  have hkl : k < X.length := by omega
  obtain ⟨x, hx⟩ := qE hkl;have hx32 := hX32 x (List.mem_of_getElem? hx);have hxl : (tagC x).length = 33 := by rw [tagC_length, hx32]
  have hcl : (idC x.2).length = 32 := by rw [idC_length, hx32]
  have hss := filter_snoc (p := fun t => hasT Y t || !decide (t.2 ∈ B)) hx;have hfl := List.length_filter_le (fun t => hasT Y t || !decide (t.2 ∈ B)) (X.take k);rw [List.length_take] at hfl;refine qd (qo ae ?_);refine qg (qi (k := k) sl_35 hX rfl hx ?_);intro p19 r19 hl19 hp19;refine qg (qP ag_97 hp19 hxl ?_);refine qg (qa zc_97 ?_);intro b11;refine qg (kB (l' := tagC x) si_97 ac hxl (tagC_all _) kR ab (over_all (by rw [hxl]; rfl)) kR.symm ?_);refine qd (qo ae ?_);refine qg (qf fi_37_0 aa ?_);intro p21 hp21;refine qg (ql (v := yv) sc_35 hp21 ?_);refine qg (qx (r := tagC x) ag_97 kH (by rw [hxl]; exact Nat.le_refl _) (by show List.take 33 (tagC _) = _; rw [← hxl, List.take_length]) ?_);refine qg (qc (contains_tag hY hY32 hx32) ?_);rintro v24 h12 L_ le11 ⟨rfl, rfl⟩;replace hB := hB.mono le11; replace hp7 := hp7.mono le11;cases hb24 : hasT Y x
  ·
   refine qg (kG rfl rfl ?_);refine qf fi_25_0 aa ?_;intro p26 hp26;refine kG rfl rfl ?_;refine ql (v := ib) sc_22 hp26 ?_;refine kG rfl rfl ?_;refine qw fi_97_1 ?_;refine kG rfl rfl ?_;refine qx (r := idC x.2) ag_74 kH (by rw [hxl]; exact Nat.le_refl _) (by show List.take 32 (idC x.2) = _; rw [List.take_of_length_le (by rw [hcl]; exact Nat.le_refl _)]) ?_;refine kG rfl rfl ?_;refine qc (contains_id hB hcl) ?_;rintro v30 h14 L_ le13 ⟨rfl, rfl⟩;cases hb30 : decide (x.2 ∈ B)
   ·
    refine kG rfl rfl ?_;refine not_ff ?_;refine qg (qd (qo ae ?_));refine qg (qw fi_37_0 ?_);refine qg (qO (v := v) sc_35 (kT (zq kH)) rfl ?_);refine qg (qx (r := tagC x) ag_97 kH (by rw [hxl]; exact Nat.le_refl _) (by show List.take 33 (tagC _) = _; rw [← hxl, List.take_length]) ?_);refine qg (qB sl_35 z_97 rfl ag ah (tagC_all _) ?_);intro v36 h16 le15 hv36;refine qg (qp sl_35 sl_35 z_97 aa aa ((zc kR).trans zm.symm) (by rw [List.length_map]; simp; omega) ?_);intro v37 N37 hv37;refine ⟨_, ((zc kR).trans zm.symm).symm, ?_⟩;refine qg (qw fi_37_0 ?_);refine qg (kB (l' := [v37]) si_35 ac ai ad ((zc ((za kR).trans zm)).trans zw) ab rfl ((zc ((za kR).trans zm)).trans zw).symm ?_);refine qd (qo ae ?_);refine qg (qA ak ?_);refine qg (qd ?_);exact back (m := _) ⟨k + 1, v37, N37, rfl, rfl, rfl, by omega, by rw [hss, hb24, hb30]; simp only [Bool.or_true, Bool.true_or, Bool.not_false, Bool.or_false, if_true, List.map_append]; exact hv37⟩ af (qh (zu (List.Sublist.append_left (zv (zv kS)) _))) zl zn
   ·
    refine kG rfl rfl ?_;refine not_tt ?_;refine qg (qd (qo ae ?_));refine qg (qA ak ?_);refine qg (qd ?_);exact back (m := _) ⟨k + 1, v, N, rfl, rfl, rfl, by omega, by rw [hss, hb24, hb30]; simpa using hv⟩ af (qh (zu (List.Sublist.append_left (zv (zv kS)) _))) zl zn
  ·
   refine qg (qk rfl rfl ?_);refine qk rfl rfl ?_;refine qk rfl rfl ?_;refine qk rfl rfl ?_;refine qk rfl rfl ?_;refine qk rfl rfl ?_;refine qg (qd (qo ae ?_));refine qg (qw fi_37_0 ?_);refine qg (qO (v := v) sc_35 (kT (zq kH)) rfl ?_);refine qg (qx (r := tagC x) ag_97 kH (by rw [hxl]; exact Nat.le_refl _) (by show List.take 33 (tagC _) = _; rw [← hxl, List.take_length]) ?_);refine qg (qB sl_35 z_97 rfl ag ah (tagC_all _) ?_);intro v36 h18 le17 hv36;refine qg (qp sl_35 sl_35 z_97 aa aa ((zc kR).trans zm.symm) (by rw [List.length_map]; simp; omega) ?_);intro v37 N37 hv37;refine ⟨_, ((zc kR).trans zm.symm).symm, ?_⟩;refine qg (qw fi_37_0 ?_);refine qg (kB (l' := [v37]) si_35 ac ai ad ((zc ((za kR).trans zm)).trans zw) ab rfl ((zc ((za kR).trans zm)).trans zw).symm ?_);refine qd (qo ae ?_);refine qg (qA ak ?_);refine qg (qd ?_);exact back (m := _) ⟨k + 1, v37, N37, rfl, rfl, rfl, by omega, by rw [hss, hb24]; simp only [Bool.or_true, Bool.true_or, Bool.not_false, Bool.or_false, if_true, List.map_append]; exact hv37⟩ af (qh (zu (List.Sublist.append_left (zv (zv kS)) _))) zl zn
 ·
  have hke : k = X.length := by omega
  rw [hke, List.take_length] at hv;refine qd (qo ae ?_);refine qg (qf fi_37_0 aa ?_);intro p40 hp40;refine qg (ql (v := yv) sc_35 hp40 ?_);refine qg (qm sl_35 hY ?_);refine qg (qd ?_);refine qL (fun s0 nn s' h' L' => ∃ (k2 : Nat) (v2 : Value) (N2 : Own), s' = [(43, .int .i64 k2)] ++ qR s0 [6, 8, 9, 41, 42] ∧ nn = Y.length - k2 ∧ N2 ++ ((b9, .cells [v2].toArray 37 (0, 0)) :: (b8, .cells [.slice none 0 0].toArray 37 (0, 0)) :: L) = L' ∧ k2 ≤ Y.length ∧ OS 97 33 v2 ((X.filter (fun t => hasT Y t || !decide (t.2 ∈ B)) ++ (Y.take k2).filter (fun t => !decide (t.2 ∈ A))).map tagC) N2) ⟨0, v, N, rfl, rfl, rfl, ?_⟩ zg zl zn ?_
  · exact ⟨Nat.zero_le _, by rw [List.take_zero, List.filter_nil, List.append_nil]; exact hv⟩
  rintro nn s1 h19 L_ le20 ⟨k2, v2, N2, rfl, rfl, rfl, hk2, hv2⟩;replace hY := hY.mono le20; replace hA := hA.mono le20; replace hp6 := hp6.mono le20;refine qo ae ?_;refine qg (lssB (fun c44 => ?_) (fun c44 => ?_))
  ·
   have hkl : k2 < Y.length := by omega
   obtain ⟨x, hx⟩ := qE hkl;have hx32 := hY32 x (List.mem_of_getElem? hx);have hxl : (tagC x).length = 33 := by rw [tagC_length, hx32]
   have hcl : (idC x.2).length = 32 := by rw [idC_length, hx32]
   have hss := filter_snoc (p := fun t => !decide (t.2 ∈ A)) hx;have hfl := List.length_filter_le (fun t => !decide (t.2 ∈ A)) (Y.take k2);have hfl2 := List.length_filter_le (fun t => hasT Y t || !decide (t.2 ∈ B)) X;rw [List.length_take] at hfl;refine qd (qo ae ?_);refine qg (qi (k := k2) sl_35 hY rfl hx ?_);intro p45 r45 hl45 hp45;refine qg (qP ag_97 hp45 hxl ?_);refine qg (qa zc_97 ?_);intro b13;refine qg (kB (l' := tagC x) si_97 ac hxl (tagC_all _) kR ab (over_all (by rw [hxl]; rfl)) kR.symm ?_);refine qd (qo ae ?_);refine qg (qf fi_25_0 aa ?_);intro p47 hp47;refine qg (ql (v := ia) sc_22 hp47 ?_);refine qg (qw fi_97_1 ?_);refine qg (qx (r := idC x.2) ag_74 kH (by rw [hxl]; exact Nat.le_refl _) (by show List.take 32 (idC x.2) = _; rw [List.take_of_length_le (by rw [hcl]; exact Nat.le_refl _)]) ?_);refine qg (qc (contains_id hA hcl) ?_);rintro v51 h22 L_ le21 ⟨rfl, rfl⟩;cases hb51 : decide (x.2 ∈ A)
   ·
    refine qg (not_ff ?_);refine qd (qo ae ?_);refine qg (qw fi_37_0 ?_);refine qg (qO (v := v2) sc_35 (kT (zq kH)) rfl ?_);refine qg (qx (r := tagC x) ag_97 kH (by rw [hxl]; exact Nat.le_refl _) (by show List.take 33 (tagC _) = _; rw [← hxl, List.take_length]) ?_);refine qg (qB sl_35 z_97 rfl ag ah (tagC_all _) ?_);intro v56 h24 le23 hv56;refine qg (qp sl_35 sl_35 z_97 aa aa ((zc kR).trans zm.symm) (by rw [List.length_map, List.length_append]; simp; omega) ?_);intro v57 N57 hv57;refine ⟨_, ((zc kR).trans zm.symm).symm, ?_⟩;refine qg (qw fi_37_0 ?_);refine qg (kB (l' := [v57]) si_35 ac ai ad ((zc ((za kR).trans zm)).trans zw) ab rfl ((zc ((za kR).trans zm)).trans zw).symm ?_);refine qd (qo ae ?_);refine qg (qA ak ?_);refine qg (qd ?_);exact back (m := _) ⟨k2 + 1, v57, N57, rfl, rfl, rfl, by omega, by rw [hss, hb51, ← List.append_assoc, List.map_append]; exact hv57⟩ af (qh (zu (List.Sublist.append_left (zv (zv kS)) _))) zl zn
   ·
    refine qg (not_tt ?_);refine qd (qo ae ?_);refine qg (qA ak ?_);refine qg (qd ?_);exact back (m := _) ⟨k2 + 1, v2, N2, rfl, rfl, rfl, by omega, by rw [hss, hb51]; simpa using hv2⟩ af (qh (zu (List.Sublist.append_left (zv (zv kS)) _))) zl zn
  ·
   have hke : k2 = Y.length := by omega
   rw [hke, List.take_length] at hv2
   have hm32 : ∀ t ∈ mergeT X Y A B, t.2.length = 32 := fun t ht => by
    rcases List.mem_append.1 ht with h | h
    · exact hX32 t (List.mem_filter.1 h).1
    · exact hY32 t (List.mem_filter.1 h).1
   have hml : (mergeT X Y A B).length ≤ 200 := by
    unfold mergeT; rw [List.length_append];have h1 := List.length_filter_le (fun t => hasT Y t || !decide (t.2 ∈ B)) X;have h2 := List.length_filter_le (fun t => !decide (t.2 ∈ A)) Y;omega
   refine qd (qo ae ?_);refine qg (qw fi_37_0 ?_);refine qg (qO (v := v2) sc_35 (zq kH) rfl ?_);refine qg (qG kR (sort_tags_top hm32 hv2 af) ?_);rintro v62 h26 N62 le25 ⟨T, hTp, hTs, hT⟩;refine ⟨_, kR.symm, ?_⟩;have hTl : T.length ≤ 200 := by rw [hTp.length_eq]; exact hml
   refine qd (qo ae ?_);refine qg (qx (r := [v2]) ag_37 (zq kH) ab rfl ?_);refine qg (kB (l' := [v2]) si_37 ac ai (show ([v2] : List Value).all oneCell = true by simp [OS.one hT]) ((za ((zc kR).trans zw)).trans zm) ab rfl ((za ((zc kR).trans zw)).trans zm).symm ?_);refine qd ?_;refine DoRet.freeze hT al kR ?_;intro h27 le28 hT;refine DoRet.r1 (.cell rfl (qx (r := [v2]) ag_37 (kT kH) ab rfl rfl)) (qh (zu (zu kS))) zl ?_;exact ⟨⟨v2, T, rfl, hT, hTp, hTs⟩, rfl⟩
theorem ref21_same {c : World} {h : GH} {L : Own} {xv yv : Value} {T : List Tag} (hX : Sl h xv 33 (T.map tagC)) (hY : Sl h yv 33 (T.map tagC)) (h32 : ∀ t ∈ T, t.2.length = 32):
 Fun Tryz.prog c 14 #[.agg [xv].toArray, .agg [yv].toArray] h L (fun u _ L' => u = .bool true ∧ L = L') := by
 have hsm := hX.small; rw [List.length_map] at hsm;refine kF (N := 31) (args := [.agg [xv].toArray, .agg [yv].toArray]) Tryz.func14 ?_;refine qo ae ?_;refine qg (box_at rfl ?_);intro p2 h2 le1 hp2;replace hX := hX.mono le1; replace hY := hY.mono le1;refine qg (box_at rfl ?_);intro p3 h4 le3 hp3;replace hX := hX.mono le3; replace hY := hY.mono le3; replace hp2 := hp2.mono le3;refine qg (qd (qo ae ?_));refine qg (qf fi_37_0 aa ?_);intro p6 hp6;refine qg (ql (v := xv) sc_35 hp6 ?_);refine qg (qm sl_35 hX ?_);refine qg (qf fi_37_0 aa ?_);intro p9 hp9;refine qg (ql (v := yv) sc_35 hp9 ?_);refine qg (qm sl_35 hY ?_);refine qg (neqB (fun c12 => ?_) (fun c12 => ?_))
 ·
  exact absurd rfl c12
 ·
  refine qd (qo ae ?_);refine qg (qd ?_);refine qL (fun s0 nn s' h' L' => ∃ (k : Nat), s' = [(5, .int .i64 k)] ++ qR s0 [2, 3] ∧ nn = T.length - k ∧ L = L' ∧ k ≤ T.length) ⟨0, rfl, rfl, rfl, ?_⟩ zg zl zn ?_
  · exact Nat.zero_le _
  rintro nn s1 h5 L_ le6 ⟨k, rfl, rfl, rfl, hk⟩;replace hX := hX.mono le6; replace hY := hY.mono le6; replace hp2 := hp2.mono le6; replace hp3 := hp3.mono le6;refine qo ae ?_;refine qg (qg (qf fi_37_0 aa ?_));intro p14 hp14;refine qg (ql (v := xv) sc_35 hp14 ?_);refine qg (qm sl_35 hX ?_);refine qg (lssB (fun c17 => ?_) (fun c17 => ?_))
  ·
   have hkl : k < T.length := by omega
   obtain ⟨x, hx⟩ := qE hkl;have hx32 := h32 x (List.mem_of_getElem? hx);have hxl : (tagC x).length = 33 := by rw [tagC_length, hx32]
   refine qd ?_;refine qD mixed [] [0, 1, 2, 3, 4, 5, 6, 7, 8, 9, 10] [] ae sub_nil ?_;refine qr rfl rfl rfl (qf fi_37_0 aa ?_);intro p20 hp20;refine qr rfl rfl rfl (ql (v := xv) sc_35 hp20 ?_);refine qr rfl rfl rfl (qr rfl rfl rfl (qi (k := k) sl_35 hX rfl hx ?_));intro p23 r23 hl23 hp23;refine qr rfl rfl rfl (qP ag_97 hp23 hxl ?_);refine qr rfl rfl rfl (qf fi_37_0 aa ?_);intro p25 hp25;refine qr rfl rfl rfl (ql (v := yv) sc_35 hp25 ?_);refine qr rfl rfl rfl (qr rfl rfl rfl (qi (k := k) sl_35 hY rfl hx ?_));intro p28 r28 hl28 hp28;refine qr rfl rfl rfl (qP ag_97 hp28 hxl ?_);refine qr rfl rfl rfl (neqF ks_tag ia_tag ef_tag (fit_tag hx32) (fit_tag hx32) (fun c30 => ?_) (fun c30 => ?_))
   ·
    exact absurd rfl c30
   ·
    refine qe zf ?_;refine qo ae ?_;refine qg (qg (qA ak ?_));refine qg (qd ?_);exact back (m := _) ⟨k + 1, rfl, rfl, rfl, by omega⟩ af zg zl zn
  ·
   refine qd (qo ae ?_);refine qg (qd ?_);refine ze rfl ?_;exact ⟨rfl, rfl⟩
end Go.Brd
namespace Go.Brd
open Go Go.Brd Go.Proofs
set_option linter.unusedVariables false
theorem ef_reg : Tryz.prog.eqGuardType Tryz.prog.depth 102 = false := by kernel_rfl
theorem ia_reg : isAggT Tryz.prog 102 = true := by kernel_rfl
theorem ks_reg : shp Tryz.prog 20 102 = some (.s :: .i .u8 :: .i .i64 :: .i .u64 :: .s :: .i .u64 :: List.replicate 32 (.i .u8)) := by kernel_rfl
theorem pl_f44 : plain Tryz.prog 44 = true := by kernel_rfl
theorem pl_f47 : plain Tryz.prog 47 = true := by kernel_rfl
theorem fit_reg {r : Reg} (hx : r.id.length = 32) : fitsL (.s :: .i .u8 :: .i .i64 :: .i .u64 :: .s :: .i .u64 :: List.replicate 32 (.i .u8)) (regC r) = true := by
 show fitsL (.s :: .i .u8 :: .i .i64 :: .i .u64 :: .s :: .i .u64 :: List.replicate 32 (.i .u8)) (.string r.key :: (valC r.val ++ (.int .u64 (r.stamp : Int) :: idC r.id))) = true;simp only [valC, List.cons_append, List.nil_append, fitsL, Bool.and_eq_true];exact ⟨rfl, rfl, rfl, rfl, rfl, rfl, fitsL_ids 32 r.id hx⟩
def stepR (Y : List Reg) (x : Reg) : Reg := match Y.find? (fun q => decide (q.key = x.key)) with
 | some q => if 0 < rcmp q x then q else x
 | none => x
def mergeR (X Y : List Reg) : List Reg := X.map (stepR Y) ++ Y.filter fun q => !X.any fun x => decide (x.key = q.key)
theorem rsort_inj {Y : List Reg} (hs : RSort Y) {a b : Reg} (ha : a ∈ Y) (hb : b ∈ Y) (e : a.key = b.key) : a = b := by
 obtain ⟨i, hi, ei⟩ := List.getElem_of_mem ha;obtain ⟨j, hj, ej⟩ := List.getElem_of_mem hb;rcases Nat.lt_trichotomy i j with h | h | h
 · have := List.pairwise_iff_getElem.1 hs i j hi hj h
   rw [ei, ej, e, kcmp_zero.2 rfl] at this; omega
 · subst h; rw [← ei, ← ej]
 · have := List.pairwise_iff_getElem.1 hs j i hj hi h
   rw [ei, ej, e, kcmp_zero.2 rfl] at this; omega
theorem stepR_some {Y : List Reg} (hs : RSort Y) {q x : Reg} (hq : q ∈ Y) (e : q.key = x.key) : stepR Y x = if 0 < rcmp q x then q else x := by
 unfold stepR;cases hf : Y.find? (fun q => decide (q.key = x.key)) with
 | none => have := List.find?_eq_none.1 hf q hq; simp [e] at this
 | some p =>
  have h1 := List.mem_of_find?_eq_some hf;have h2 := List.find?_some hf;have : p = q := rsort_inj hs h1 hq ((of_decide_eq_true h2).trans e.symm);subst this; rfl
theorem stepR_none {Y : List Reg} {x : Reg} (h : ∀ q ∈ Y, q.key ≠ x.key) : stepR Y x = x := by
 unfold stepR;have : Y.find? (fun q => decide (q.key = x.key)) = none := List.find?_eq_none.2 fun q hq => by simp [h q hq]
 rw [this]
theorem stepR_mem {Y : List Reg} {x : Reg} : stepR Y x ∈ Y ∨ stepR Y x = x := by
 unfold stepR;cases hf : Y.find? (fun q => decide (q.key = x.key)) with
 | none => exact .inr rfl
 | some p =>
  simp only;split
  · exact .inl (List.mem_of_find?_eq_some hf)
  · exact .inr rfl
theorem map_snoc {α β : Type} (f : α → β) {l : List α} {k : Nat} {x : α} (hx : l[k]? = some x) : (l.take (k + 1)).map f = (l.take k).map f ++ [f x] := by rw [takeS hx, List.map_append]; rfl
theorem indexfunc_reg {c : World} {h : GH} {L : Own} {v : Value} {R : List Reg} {g : Nat} {caps : List Value} {p : Reg → Bool} (hs : Sl h v 38 (R.map regC)) (hok : ∀ r ∈ R, RegOk r) (hE : ∀ (x : Reg) (h1 : GH) (L0 : Own), GH.le h h1 → RegOk x → Fun Tryz.prog c g ([Value.agg (regC x).toArray] ++ caps).toArray h1 L0 (fun u _ L' => u = .bool (p x) ∧ L0 = L')):
 Fun Tryz.prog c 44 #[v, .func (.func g) #[] caps.toArray] h L (fun u _ L' => (∃ i : Int, u = .int .i64 i ∧ ((i = -1 ∧ ∀ r ∈ R, p r = false) ∨ ∃ (k : Nat) (r : Reg), i = k ∧ R[k]? = some r ∧ p r = true)) ∧ L = L') := by
 have hle0 := GH.le_refl h;have hsm := hs.small; rw [List.length_map] at hsm;refine kF (N := 19) (args := [v, .func (.func g) #[] caps.toArray]) Tryz.func44 ?_;refine qo ae ?_;refine qg (qd (qo ae ?_));refine qg (qg (qm sl_38 hs ?_));refine qg (qd ?_);refine qL (fun s0 nn s' h' L' => ∃ (k : Nat), s' = [(8, .int .i64 k)] ++ qR s0 [0, 1, 7] ∧ nn = R.length - k ∧ L = L' ∧ k ≤ R.length ∧ ∀ (j : Nat) (t : Reg), j < k → R[j]? = some t → p t = false) ⟨0, rfl, rfl, rfl, ?_⟩ zg zl zn ?_
 · exact ⟨Nat.zero_le _, fun j t hj => absurd hj (Nat.not_lt_zero j)⟩
 rintro nn s1 h1 L_ le2 ⟨k, rfl, rfl, rfl, hk, hn⟩;replace hs := hs.mono le2; replace hle0 := hle0.mono le2;refine qo ae ?_;refine qg (lssB (fun c9 => ?_) (fun c9 => ?_))
 ·
  have hkl : k < R.length := by omega
  obtain ⟨y, hy⟩ := qE hkl;have hyk := hok y (List.mem_of_getElem? hy);have hyl : (regC y).length = 38 := by rw [regC_length, hyk.1]
  refine qd (qo ae ?_);refine qg (qg (qd (qo ae ?_)));refine qg (qg (qg (qg (qi (k := k) sl_38 hs rfl hy ?_))));intro p14 r14 hl14 hp14;refine qg (qP ag_102 hp14 hyl ?_);refine qg (DoCall.clo (hE y _ _ hle0 hyk) ?_);rintro v16 h4 L_ le3 ⟨rfl, rfl⟩;cases hb16 : p y
  ·
   refine qd (qo ae ?_);refine qg (qA ak ?_);refine qg (qd ?_)
   exact back (m := _) ⟨k + 1, rfl, rfl, rfl, by omega, fun j t hj ht => by
    rcases Nat.lt_or_ge j k with h1 | h1
    · exact hn j t h1 ht
    · have : j = k := by omega
      subst this; rw [hy] at ht; cases ht; exact hb16⟩ af zg zl zn
  ·
   refine qd (qo ae ?_);refine qg (qg (qd ?_));refine ze rfl ?_;exact ⟨⟨_, rfl, .inr ⟨k, y, rfl, hy, hb16⟩⟩, rfl⟩
 ·
  refine qd (qo ae ?_);refine qg (qd ?_);refine ze rfl ?_;have hke : k = R.length := by omega
  subst hke
  exact ⟨⟨_, rfl, .inl ⟨rfl, fun r hr => by
   obtain ⟨j, hj, e⟩ := List.getElem_of_mem hr;exact hn j r hj (by rw [List.getElem?_eq_getElem hj, e])⟩⟩, rfl⟩
theorem containsfunc_reg {c : World} {h : GH} {L : Own} {v : Value} {R : List Reg} {g : Nat} {caps : List Value} {p : Reg → Bool} (hs : Sl h v 38 (R.map regC)) (hok : ∀ r ∈ R, RegOk r) (hE : ∀ (x : Reg) (h1 : GH) (L0 : Own), GH.le h h1 → RegOk x → Fun Tryz.prog c g ([Value.agg (regC x).toArray] ++ caps).toArray h1 L0 (fun u _ L' => u = .bool (p x) ∧ L0 = L')):
 Fun Tryz.prog c 47 #[v, .func (.func g) #[] caps.toArray] h L (fun u _ L' => u = .bool (R.any p) ∧ L = L') := by
 refine kF (N := 9) (args := [v, .func (.func g) #[] caps.toArray]) Tryz.func47 ?_;refine qo ae ?_;refine qg (qd (qo ae ?_));refine qg (qg (qg (qc (indexfunc_reg (caps := caps) (p := p) hs hok hE) ?_)));rintro v7 h2 L_ le1 ⟨⟨i7, rfl, hi7⟩, rfl⟩;refine qg (geqB (fun c8 => ?_) (fun c8 => ?_))
 ·
  refine qg (qd ?_);refine ze rfl ?_;obtain ⟨k, r, _, h1, h2⟩ := hi7.resolve_left (fun e => by omega);rw [List.any_eq_true.2 ⟨r, List.mem_of_getElem? h1, h2⟩]; exact ⟨rfl, rfl⟩
 ·
  refine qg (qd ?_);refine ze rfl ?_;rcases hi7 with ⟨_, hno⟩ | ⟨k, r, e, _⟩
  · have e2 : R.any p = false := List.any_eq_false.2 fun r hr => by rw [hno r hr]; simp
    rw [e2]; exact ⟨rfl, rfl⟩
  · omega
theorem regsw1 {c : World} {h : GH} {L : Own} {p : Value} {x q : Reg} (hp : At h p (regC x)) (hq : RegOk q):
 Fun Tryz.prog c 45 #[.agg (regC q).toArray, p] h L (fun u _ L' => u = .bool (decide (q.key = x.key)) ∧ L = L') := by
 refine kF (N := 9) (args := [.agg (regC q).toArray, p]) Tryz.func45 ?_;refine qo ae ?_;refine qg (box_at rfl ?_);intro p2 h2 le1 hp2;replace hp := hp.mono le1;refine qg (qd (qo ae ?_));refine qg (qf fi_102_0 aa ?_);intro p4 hp4;refine qg (ql (v := .string q.key) sc_9 hp4 ?_);refine qg (qf fi_102_0 hp ?_);intro p6 hp6;refine qg (ql (v := .string x.key) sc_9 hp6 ?_);refine qg (eqlS (fun c8 => ?_) (fun c8 => ?_))
 ·
  refine qg (qd ?_);refine ze rfl ?_;rw [decide_eq_true c8]; exact ⟨rfl, rfl⟩
 ·
  refine qg (qd ?_);refine ze rfl ?_;rw [decide_eq_false c8]; exact ⟨rfl, rfl⟩
theorem regsw2 {c : World} {h : GH} {L : Own} {p : Value} {x q : Reg} (hp : At h p (regC x)) (hq : RegOk q):
 Fun Tryz.prog c 48 #[.agg (regC q).toArray, p] h L (fun u _ L' => u = .bool (decide (q.key = x.key)) ∧ L = L') := by
 refine kF (N := 9) (args := [.agg (regC q).toArray, p]) Tryz.func48 ?_;refine qo ae ?_;refine qg (box_at rfl ?_);intro p2 h2 le1 hp2;replace hp := hp.mono le1;refine qg (qd (qo ae ?_));refine qg (qf fi_102_0 aa ?_);intro p4 hp4;refine qg (ql (v := .string q.key) sc_9 hp4 ?_);refine qg (qf fi_102_0 hp ?_);intro p6 hp6;refine qg (ql (v := .string x.key) sc_9 hp6 ?_);refine qg (eqlS (fun c8 => ?_) (fun c8 => ?_))
 ·
  refine qg (qd ?_);refine ze rfl ?_;rw [decide_eq_true c8]; exact ⟨rfl, rfl⟩
 ·
  refine qg (qd ?_);refine ze rfl ?_;rw [decide_eq_false c8]; exact ⟨rfl, rfl⟩
theorem ref22_later {c : World} {h : GH} {L : Own} {q x : Reg} (hq : RegOk q) (hx : RegOk x):
 Fun Tryz.prog c 46 #[.int .u64 (q.stamp : Int), .agg (idC q.id).toArray, .agg (regC x).toArray] h L (fun u _ L' => u = .bool (decide (0 < rcmp q x)) ∧ L = L') := by
 have hql : (idC q.id).length = 32 := by rw [idC_length]; exact hq.1
 have hxl : (idC x.id).length = 32 := by rw [idC_length]; exact hx.1
 refine kF (N := 24) (args := [.int .u64 (q.stamp : Int), .agg (idC q.id).toArray, .agg (regC x).toArray]) Tryz.func46 ?_;refine qo ae ?_;refine qg (box_at rfl ?_);intro p4 h2 le1 hp4;refine qg (box_at rfl ?_);intro p5 h4 le3 hp5;replace hp4 := hp4.mono le3;refine qg (qd (qo ae ?_));refine qg (qg (qf fi_102_2 aa ?_));intro p8 hp8;refine qg (ql (v := .int .u64 (x.stamp : Int)) sc_52 hp8 ?_);refine qg (gtrB (fun c10 => ?_) (fun c10 => ?_))
 ·
  refine qg (qk rfl rfl ?_);refine qk rfl rfl ?_;refine qk rfl rfl ?_;refine qk rfl rfl ?_;refine qk rfl rfl ?_;refine DoOps.skipU rfl rfl ?_;refine DoOps.skipU rfl rfl ?_;refine DoOps.skipU rfl rfl ?_;refine DoOps.skipU rfl rfl ?_;refine DoOps.skipU rfl rfl ?_;refine qk rfl rfl ?_;refine qg (qg (qd ?_));refine ze rfl ?_;have e : 0 < rcmp q x := by unfold rcmp scmp; rw [if_neg (by rw [if_neg af, if_pos af]; omega), if_neg af, if_pos af]; omega
  rw [decide_eq_true e]; exact ⟨rfl, rfl⟩
 ·
  refine qg (kG rfl rfl ?_);refine kG rfl rfl ?_;refine qf fi_102_2 aa ?_;intro p13 hp13;refine kG rfl rfl ?_;refine ql (v := .int .u64 (x.stamp : Int)) sc_52 hp13 ?_;refine kG rfl rfl ?_;refine eqlB (fun c15 => ?_) (fun c15 => ?_)
  ·
   refine kG rfl rfl ?_;refine qT rfl rfl ?_;refine qX ag_74 hp4 hql ?_;refine qT rfl rfl ?_;refine qf fi_102_3 hp5 ?_;intro p18 hp18x;have hp18 : At _ p18 (idC x.id) := hp18x;refine qT rfl rfl ?_;refine qX ag_74 hp18 hxl ?_;refine qT rfl rfl ?_;refine qc (ref_cmp hql hxl) ?_;rintro v20 h6 L_ le5 ⟨rfl, rfl⟩;refine qT rfl rfl ?_;refine gtrB (fun c21 => ?_) (fun c21 => ?_)
   ·
    refine kG rfl rfl ?_;refine qg (qg (qd ?_));refine ze rfl ?_;have e : 0 < rcmp q x := by unfold rcmp; rw [if_pos (scmp_zero.2 af)]; exact c21
    rw [decide_eq_true e]; exact ⟨rfl, rfl⟩
   ·
    refine kG rfl rfl ?_;refine qg (qg (qd ?_));refine ze rfl ?_;have e : ¬ 0 < rcmp q x := by unfold rcmp; rw [if_pos (scmp_zero.2 af)]; exact c21
    rw [decide_eq_false e]; exact ⟨rfl, rfl⟩
  ·
   refine kG rfl rfl ?_;refine DoOps.skipT rfl rfl ?_;refine DoOps.skipT rfl rfl ?_;refine DoOps.skipT rfl rfl ?_;refine DoOps.skipT rfl rfl ?_;refine DoOps.skipT rfl rfl ?_;refine kG rfl rfl ?_;refine qg (qg (qd ?_));refine ze rfl ?_;have e : ¬ 0 < rcmp q x := by unfold rcmp scmp; rw [if_neg (by rw [if_pos af]; omega), if_pos af]; omega
   rw [decide_eq_false e]; exact ⟨rfl, rfl⟩
theorem top_regsw {c : World} {h : GH} {L : Own} {xv yv : Value} {X Y : List Reg} (hX : Sl h xv 38 (X.map regC)) (hY : Sl h yv 38 (Y.map regC)) (hXok : ∀ r ∈ X, RegOk r) (hYok : ∀ r ∈ Y, RegOk r) (hYs : RSort Y) (hXl : X.length ≤ 60) (hYl : Y.length ≤ 60):
 Fun Tryz.prog c 17 #[.agg [xv].toArray, .agg [yv].toArray] h L (fun u h' L' => (∃ (z : Value) (R : List Reg), u = .agg #[z] ∧ Sl h' z 38 (R.map regC) ∧ R.Perm (mergeR X Y) ∧ R.Pairwise (fun a b => ¬ kcmp b.key a.key < 0)) ∧ L = L') := by
 refine kF (N := 75) (args := [.agg [xv].toArray, .agg [yv].toArray]) Tryz.func17 ?_;refine qo ae ?_;refine qg (box_at rfl ?_);intro p2 h2 le1 hp2;replace hX := hX.mono le1; replace hY := hY.mono le1;refine qg (box_at rfl ?_);intro p3 h4 le3 hp3;replace hX := hX.mono le3; replace hY := hY.mono le3; replace hp2 := hp2.mono le3;refine qg (qa zc_40 ?_);intro b4;refine qd (qo ae ?_);refine qg (qa zc_40 ?_);intro b5;refine qd (qo ae ?_);refine qg (qf fi_40_0 aa ?_);intro p11 hp11;refine qg (ql (v := xv) sc_38 hp11 ?_);refine qg (qm sl_38 hX ?_);refine qg (qd ?_);refine qL (fun s0 nn s' h' L' => ∃ (k : Nat) (v : Value) (N : Own), s' = [(14, .int .i64 k)] ++ qR s0 [2, 3, 4, 5, 12, 13] ∧ nn = X.length - k ∧ N ++ ((b5, .cells [v].toArray 40 (0, 0)) :: (b4, .cells [.slice none 0 0].toArray 40 (0, 0)) :: L) = L' ∧ k ≤ X.length ∧ OS 102 38 v (((X.take k).map (stepR Y)).map regC) N) ⟨0, _, [], rfl, rfl, rfl, ?_⟩ zg zl zn ?_
 · exact ⟨Nat.zero_le _, OS.nil _ _⟩
 rintro nn s1 h5 L_ le6 ⟨k, v, N, rfl, rfl, rfl, hk, hv⟩;replace hX := hX.mono le6; replace hY := hY.mono le6; replace hp2 := hp2.mono le6; replace hp3 := hp3.mono le6;refine qo ae ?_;refine qg (lssB (fun c15 => ?_) (fun c15 => ?_))
 ·
  have hkl : k < X.length := by omega
  obtain ⟨x, hx⟩ := qE hkl;have hxk := hXok x (List.mem_of_getElem? hx);have hxl : (regC x).length = 38 := by rw [regC_length, hxk.1]
  have hss := map_snoc (stepR Y) hx;refine qd (qo ae ?_);refine qg (qi (k := k) sl_38 hX rfl hx ?_);intro p16 r16 hl16 hp16;refine qg (qP ag_102 hp16 hxl ?_);refine qg (qa zc_102 ?_);intro b7;refine qg (kB (l' := regC x) si_102 ac hxl (regC_all _) kR ab (over_all (by rw [hxl]; rfl)) kR.symm ?_);refine qd (qo ae ?_);refine qg (qf fi_40_0 aa ?_);intro p18 hp18;refine qg (ql (v := yv) sc_38 hp18 ?_);refine qg (qg (DoCall.lend kR pl_f44 (fun hB leB hbB => indexfunc_reg (caps := [.pointer (some ⟨b7, 0, none⟩)]) (p := fun q => decide (q.key = x.key)) (hY.mono leB) hYok (fun q h1 L0 hle hq => regsw1 ((At.box hbB).mono hle) hq)) ?_));rintro v21 h8 le7 ⟨i21, rfl, hi21⟩;replace hY := hY.mono le7; replace hp3 := hp3.mono le7;refine qg (qd ?_);refine qD mixed [] [0, 1, 2, 3, 4, 5, 6, 7, 8, 9, 10, 11, 12, 13, 14, 15, 16, 17] (_ :: []) ae (qq kH sub_nil) ?_;refine qr rfl rfl rfl (qr rfl rfl rfl (geqB (fun c23 => ?_) (fun c23 => ?_)))
  ·
   obtain ⟨k3, q, rfl, hq, hpq⟩ := hi21.resolve_left (fun e => by omega);have hqk := hYok q (List.mem_of_getElem? hq);have hql : (regC q).length = 38 := by rw [regC_length, hqk.1]
   have hst := stepR_some hYs (List.mem_of_getElem? hq) (of_decide_eq_true hpq);refine qr rfl rfl rfl (DoDr.rdT rfl rfl rfl rfl rfl ?_);refine qf fi_40_0 aa ?_;intro p25 hp25;refine DoDr.rdT rfl rfl rfl rfl rfl ?_;refine ql (v := yv) sc_38 hp25 ?_;refine DoDr.rdT rfl rfl rfl rfl rfl ?_;refine DoDr.rdT rfl rfl rfl rfl rfl ?_;refine qi (k := k3) sl_38 hY rfl hq ?_;intro p28 r28 hl28 hp28;refine DoDr.rdT rfl rfl rfl rfl rfl ?_;refine qf fi_102_2 aa ?_;intro p29 hp29;refine DoDr.rdT rfl rfl rfl rfl rfl ?_;refine ql (v := .int .u64 (q.stamp : Int)) sc_52 hp29 ?_;refine DoDr.rdT rfl rfl rfl rfl rfl ?_;refine qf fi_40_0 aa ?_;intro p31 hp31;refine DoDr.rdT rfl rfl rfl rfl rfl ?_;refine ql (v := yv) sc_38 hp31 ?_;refine DoDr.rdT rfl rfl rfl rfl rfl ?_;refine DoDr.rdT rfl rfl rfl rfl rfl ?_;refine qi (k := k3) sl_38 hY rfl hq ?_;intro p34 r34 hl34 hp34;refine DoDr.rdT rfl rfl rfl rfl rfl ?_;refine qf fi_102_3 hp34 ?_;intro p35 hp35x;have hp35 : At _ p35 (idC q.id ++ r34) := hp35x;refine DoDr.rdT rfl rfl rfl rfl rfl ?_;refine qP ag_74 hp35 (show (idC q.id).length = 32 by rw [idC_length]; exact hqk.1) ?_;refine DoDr.rdT rfl rfl rfl rfl rfl ?_;refine qx (r := regC x) ag_102 kH (by rw [hxl]; exact Nat.le_refl _) (by show List.take 38 (regC _) = _; rw [← hxl, List.take_length]) ?_;refine DoDr.efT rfl rfl rfl rfl rfl ?_;refine qc (ref22_later hqk hxk) ?_;rintro v38 h10 L_ le9 ⟨rfl, rfl⟩;replace hY := hY.mono le9; replace hp3 := hp3.mono le9;cases hb38 : decide (0 < rcmp q x)
   ·
    refine ⟨(qq kH sub_nil), ?_⟩;refine qr rfl rfl rfl (qe zf ?_);refine qo ae ?_;refine qg (qw fi_40_0 ?_);refine qg (qO (v := v) sc_38 (kT (zq kH)) rfl ?_);refine qg (qx (r := regC x) ag_102 kH (by rw [hxl]; exact Nat.le_refl _) (by show List.take 38 (regC _) = _; rw [← hxl, List.take_length]) ?_);refine qg (qB sl_38 z_102 rfl ag ah (regC_all _) ?_);intro v48 h12 le11 hv48;refine qg (qp sl_38 sl_38 z_102 aa aa ((zc kR).trans zm.symm) (by rw [List.length_map, List.length_map, List.length_take]; simp; omega) ?_);intro v49 N49 hv49;refine ⟨_, ((zc kR).trans zm.symm).symm, ?_⟩;refine qg (qw fi_40_0 ?_);refine qg (kB (l' := [v49]) si_38 ac ai ad ((zc ((za kR).trans zm)).trans zw) ab rfl ((zc ((za kR).trans zm)).trans zw).symm ?_);refine qd (qo ae ?_);refine qg (qA ak ?_);refine qg (qd ?_);exact back (m := _) ⟨k + 1, v49, N49, rfl, rfl, rfl, by omega, by rw [hss, hst, if_neg (of_decide_eq_false hb38), List.map_append]; exact hv49⟩ af (qh (zu (List.Sublist.append_left (zv (zv kS)) _))) zl zn
   ·
    refine ⟨(qq kH sub_nil), ?_⟩;refine qr rfl rfl rfl (qe zf ?_);refine qo ae ?_;refine qg (qf fi_40_0 aa ?_);intro p40 hp40;refine qg (ql (v := yv) sc_38 hp40 ?_);refine qg (qg (qi (k := k3) sl_38 hY rfl hq ?_));intro p43 r43 hl43 hp43;refine qg (qP ag_102 hp43 hql ?_);refine qg (kB (l' := regC q) si_102 ac hql (regC_all _) kR (by rw [hxl]; exact Nat.le_refl _) (over_all (by rw [hxl, hql])) kR.symm ?_);refine qd (qo ae ?_);refine qg (qw fi_40_0 ?_);refine qg (qO (v := v) sc_38 (kT (zq kH)) rfl ?_);refine qg (qx (r := regC q) ag_102 kH (by rw [hql]; exact Nat.le_refl _) (by show List.take 38 (regC _) = _; rw [← hql, List.take_length]) ?_);refine qg (qB sl_38 z_102 rfl ag ah (regC_all _) ?_);intro v48 h14 le13 hv48;refine qg (qp sl_38 sl_38 z_102 aa aa ((zc kR).trans zm.symm) (by rw [List.length_map, List.length_map, List.length_take]; simp; omega) ?_);intro v49 N49 hv49;refine ⟨_, ((zc kR).trans zm.symm).symm, ?_⟩;refine qg (qw fi_40_0 ?_);refine qg (kB (l' := [v49]) si_38 ac ai ad ((zc ((za kR).trans zm)).trans zw) ab rfl ((zc ((za kR).trans zm)).trans zw).symm ?_);refine qd (qo ae ?_);refine qg (qA ak ?_);refine qg (qd ?_);exact back (m := _) ⟨k + 1, v49, N49, rfl, rfl, rfl, by omega, by rw [hss, hst, if_pos (of_decide_eq_true hb38), List.map_append]; exact hv49⟩ af (qh (zu (List.Sublist.append_left (zv (zv kS)) _))) zl zn
  ·
   have hno := (hi21.resolve_right (fun ⟨k3, r, e, _⟩ => by omega)).2;have hst := stepR_none (Y := Y) (x := x) (fun q hq e => by have := hno q hq; rw [decide_eq_true e] at this; cases this);refine qr rfl rfl rfl (DoDr.skipT rfl rfl rfl rfl ?_);refine DoDr.skipT rfl rfl rfl rfl ?_;refine DoDr.skipT rfl rfl rfl rfl ?_;refine DoDr.skipT rfl rfl rfl rfl ?_;refine DoDr.skipT rfl rfl rfl rfl ?_;refine DoDr.skipT rfl rfl rfl rfl ?_;refine DoDr.skipT rfl rfl rfl rfl ?_;refine DoDr.skipT rfl rfl rfl rfl ?_;refine DoDr.skipT rfl rfl rfl rfl ?_;refine DoDr.skipT rfl rfl rfl rfl ?_;refine DoDr.skipT rfl rfl rfl rfl ?_;refine DoDr.skipT rfl rfl rfl rfl ?_;refine DoDr.skipT rfl rfl rfl rfl ?_;refine DoDr.skipT rfl rfl rfl rfl ?_;refine qr rfl rfl rfl (qe zf ?_);refine qo ae ?_;refine qg (qw fi_40_0 ?_);refine qg (qO (v := v) sc_38 (kT (zq kH)) rfl ?_);refine qg (qx (r := regC x) ag_102 kH (by rw [hxl]; exact Nat.le_refl _) (by show List.take 38 (regC _) = _; rw [← hxl, List.take_length]) ?_);refine qg (qB sl_38 z_102 rfl ag ah (regC_all _) ?_);intro v48 h16 le15 hv48;refine qg (qp sl_38 sl_38 z_102 aa aa ((zc kR).trans zm.symm) (by rw [List.length_map, List.length_map, List.length_take]; simp; omega) ?_);intro v49 N49 hv49;refine ⟨_, ((zc kR).trans zm.symm).symm, ?_⟩;refine qg (qw fi_40_0 ?_);refine qg (kB (l' := [v49]) si_38 ac ai ad ((zc ((za kR).trans zm)).trans zw) ab rfl ((zc ((za kR).trans zm)).trans zw).symm ?_);refine qd (qo ae ?_);refine qg (qA ak ?_);refine qg (qd ?_);exact back (m := _) ⟨k + 1, v49, N49, rfl, rfl, rfl, by omega, by rw [hss, hst, List.map_append]; exact hv49⟩ af (qh (zu (List.Sublist.append_left (zv (zv kS)) _))) zl zn
 ·
  have hke : k = X.length := by omega
  rw [hke, List.take_length] at hv;refine qd (qo ae ?_);refine qg (qf fi_40_0 aa ?_);intro p52 hp52;refine qg (ql (v := yv) sc_38 hp52 ?_);refine qg (qm sl_38 hY ?_);refine qg (qd ?_);refine qL (fun s0 nn s' h' L' => ∃ (k2 : Nat) (v2 : Value) (N2 : Own), s' = [(55, .int .i64 k2)] ++ qR s0 [2, 4, 5, 53, 54] ∧ nn = Y.length - k2 ∧ N2 ++ ((b5, .cells [v2].toArray 40 (0, 0)) :: (b4, .cells [.slice none 0 0].toArray 40 (0, 0)) :: L) = L' ∧ k2 ≤ Y.length ∧ OS 102 38 v2 ((X.map (stepR Y) ++ (Y.take k2).filter (fun q => !X.any fun x => decide (x.key = q.key))).map regC) N2) ⟨0, v, N, rfl, rfl, rfl, ?_⟩ zg zl zn ?_
  · exact ⟨Nat.zero_le _, by rw [List.take_zero, List.filter_nil, List.append_nil]; exact hv⟩
  rintro nn s1 h17 L_ le18 ⟨k2, v2, N2, rfl, rfl, rfl, hk2, hv2⟩;replace hX := hX.mono le18; replace hY := hY.mono le18; replace hp2 := hp2.mono le18;refine qo ae ?_;refine qg (lssB (fun c56 => ?_) (fun c56 => ?_))
  ·
   have hkl : k2 < Y.length := by omega
   obtain ⟨y, hy⟩ := qE hkl;have hyk := hYok y (List.mem_of_getElem? hy);have hyl : (regC y).length = 38 := by rw [regC_length, hyk.1]
   have hss := filter_snoc (p := fun q => !X.any fun x => decide (x.key = q.key)) hy;have hfl := List.length_filter_le (fun q => !X.any fun x => decide (x.key = q.key)) (Y.take k2);rw [List.length_take] at hfl;refine qd (qo ae ?_);refine qg (qi (k := k2) sl_38 hY rfl hy ?_);intro p57 r57 hl57 hp57;refine qg (qP ag_102 hp57 hyl ?_);refine qg (qa zc_102 ?_);intro b10;refine qg (kB (l' := regC y) si_102 ac hyl (regC_all _) kR ab (over_all (by rw [hyl]; rfl)) kR.symm ?_);refine qd (qo ae ?_);refine qg (qf fi_40_0 aa ?_);intro p59 hp59;refine qg (ql (v := xv) sc_38 hp59 ?_);refine qg (qg (DoCall.lend kR pl_f47 (fun hB leB hbB => containsfunc_reg (caps := [.pointer (some ⟨b10, 0, none⟩)]) (p := fun q => decide (q.key = y.key)) (hX.mono leB) hXok (fun q h1 L0 hle hq => regsw2 ((At.box hbB).mono hle) hq)) ?_));rintro v62 h20 le19 rfl;cases hb62 : X.any (fun x => decide (x.key = y.key))
   ·
    refine qg (not_ff ?_);refine qd (qo ae ?_);refine qg (qw fi_40_0 ?_);refine qg (qO (v := v2) sc_38 (kT (zq kH)) rfl ?_);refine qg (qx (r := regC y) ag_102 kH (by rw [hyl]; exact Nat.le_refl _) (by show List.take 38 (regC _) = _; rw [← hyl, List.take_length]) ?_);refine qg (qB sl_38 z_102 rfl ag ah (regC_all _) ?_);intro v67 h22 le21 hv67;refine qg (qp sl_38 sl_38 z_102 aa aa ((zc kR).trans zm.symm) (by rw [List.length_map, List.length_append, List.length_map]; simp; omega) ?_);intro v68 N68 hv68;refine ⟨_, ((zc kR).trans zm.symm).symm, ?_⟩;refine qg (qw fi_40_0 ?_);refine qg (kB (l' := [v68]) si_38 ac ai ad ((zc ((za kR).trans zm)).trans zw) ab rfl ((zc ((za kR).trans zm)).trans zw).symm ?_);refine qd (qo ae ?_);refine qg (qA ak ?_);refine qg (qd ?_);exact back (m := _) ⟨k2 + 1, v68, N68, rfl, rfl, rfl, by omega, by rw [hss, hb62, ← List.append_assoc, List.map_append]; exact hv68⟩ af (qh (zu (List.Sublist.append_left (zv (zv kS)) _))) zl zn
   ·
    refine qg (not_tt ?_);refine qd (qo ae ?_);refine qg (qA ak ?_);refine qg (qd ?_);exact back (m := _) ⟨k2 + 1, v2, N2, rfl, rfl, rfl, by omega, by rw [hss, hb62]; simpa using hv2⟩ af (qh (zu (List.Sublist.append_left (zv (zv kS)) _))) zl zn
  ·
   have hke : k2 = Y.length := by omega
   rw [hke, List.take_length] at hv2
   have hmok : ∀ t ∈ mergeR X Y, RegOk t := fun t ht => by
    rcases List.mem_append.1 ht with h | h
    · obtain ⟨x, hx, rfl⟩ := List.mem_map.1 h
      rcases stepR_mem (Y := Y) (x := x) with e | e
      · exact hYok _ e
      · rw [e]; exact hXok x hx
    · exact hYok t (List.mem_filter.1 h).1
   have hml : (mergeR X Y).length ≤ 200 := by
    unfold mergeR; rw [List.length_append, List.length_map];have h2 := List.length_filter_le (fun q => !X.any fun x => decide (x.key = q.key)) Y;omega
   refine qd (qo ae ?_);refine qg (qw fi_40_0 ?_);refine qg (qO (v := v2) sc_38 (zq kH) rfl ?_);refine qg (qG kR (sort_regs hmok hv2 af) ?_);rintro v73 h24 N73 le23 ⟨R, hTp, hTs, hT⟩;refine ⟨_, kR.symm, ?_⟩;have hTl : R.length ≤ 200 := by rw [hTp.length_eq]; exact hml
   refine qd (qo ae ?_);refine qg (qx (r := [v2]) ag_40 (zq kH) ab rfl ?_);refine qg (kB (l' := [v2]) si_40 ac ai (show ([v2] : List Value).all oneCell = true by simp [OS.one hT]) ((za ((zc kR).trans zw)).trans zm) ab rfl ((za ((zc kR).trans zw)).trans zm).symm ?_);refine qd ?_;refine DoRet.freeze hT al kR ?_;intro h25 le26 hT;refine DoRet.r1 (.cell rfl (qx (r := [v2]) ag_40 (kT kH) ab rfl rfl)) (qh (zu (zu kS))) zl ?_;exact ⟨⟨v2, R, rfl, hT, hTp, hTs⟩, rfl⟩
theorem ref22_same {c : World} {h : GH} {L : Own} {xv yv : Value} {T : List Reg} (hX : Sl h xv 38 (T.map regC)) (hY : Sl h yv 38 (T.map regC)) (h32 : ∀ t ∈ T, t.id.length = 32):
 Fun Tryz.prog c 16 #[.agg [xv].toArray, .agg [yv].toArray] h L (fun u _ L' => u = .bool true ∧ L = L') := by
 have hsm := hX.small; rw [List.length_map] at hsm;refine kF (N := 31) (args := [.agg [xv].toArray, .agg [yv].toArray]) Tryz.func16 ?_;refine qo ae ?_;refine qg (box_at rfl ?_);intro p2 h2 le1 hp2;replace hX := hX.mono le1; replace hY := hY.mono le1;refine qg (box_at rfl ?_);intro p3 h4 le3 hp3;replace hX := hX.mono le3; replace hY := hY.mono le3; replace hp2 := hp2.mono le3;refine qg (qd (qo ae ?_));refine qg (qf fi_40_0 aa ?_);intro p6 hp6;refine qg (ql (v := xv) sc_38 hp6 ?_);refine qg (qm sl_38 hX ?_);refine qg (qf fi_40_0 aa ?_);intro p9 hp9;refine qg (ql (v := yv) sc_38 hp9 ?_);refine qg (qm sl_38 hY ?_);refine qg (neqB (fun c12 => ?_) (fun c12 => ?_))
 ·
  exact absurd rfl c12
 ·
  refine qd (qo ae ?_);refine qg (qd ?_);refine qL (fun s0 nn s' h' L' => ∃ (k : Nat), s' = [(5, .int .i64 k)] ++ qR s0 [2, 3] ∧ nn = T.length - k ∧ L = L' ∧ k ≤ T.length) ⟨0, rfl, rfl, rfl, ?_⟩ zg zl zn ?_
  · exact Nat.zero_le _
  rintro nn s1 h5 L_ le6 ⟨k, rfl, rfl, rfl, hk⟩;replace hX := hX.mono le6; replace hY := hY.mono le6; replace hp2 := hp2.mono le6; replace hp3 := hp3.mono le6;refine qo ae ?_;refine qg (qg (qf fi_40_0 aa ?_));intro p14 hp14;refine qg (ql (v := xv) sc_38 hp14 ?_);refine qg (qm sl_38 hX ?_);refine qg (lssB (fun c17 => ?_) (fun c17 => ?_))
  ·
   have hkl : k < T.length := by omega
   obtain ⟨x, hx⟩ := qE hkl;have hx32 := h32 x (List.mem_of_getElem? hx);have hxl : (regC x).length = 38 := by rw [regC_length, hx32]
   refine qd ?_;refine qD mixed [] [0, 1, 2, 3, 4, 5, 6, 7, 8, 9, 10] [] ae sub_nil ?_;refine qr rfl rfl rfl (qf fi_40_0 aa ?_);intro p20 hp20;refine qr rfl rfl rfl (ql (v := xv) sc_38 hp20 ?_);refine qr rfl rfl rfl (qr rfl rfl rfl (qi (k := k) sl_38 hX rfl hx ?_));intro p23 r23 hl23 hp23;refine qr rfl rfl rfl (qP ag_102 hp23 hxl ?_);refine qr rfl rfl rfl (qf fi_40_0 aa ?_);intro p25 hp25;refine qr rfl rfl rfl (ql (v := yv) sc_38 hp25 ?_);refine qr rfl rfl rfl (qr rfl rfl rfl (qi (k := k) sl_38 hY rfl hx ?_));intro p28 r28 hl28 hp28;refine qr rfl rfl rfl (qP ag_102 hp28 hxl ?_);refine qr rfl rfl rfl (neqF ks_reg ia_reg ef_reg (fit_reg hx32) (fit_reg hx32) (fun c30 => ?_) (fun c30 => ?_))
   ·
    exact absurd rfl c30
   ·
    refine qe zf ?_;refine qo ae ?_;refine qg (qg (qA ak ?_));refine qg (qd ?_);exact back (m := _) ⟨k + 1, rfl, rfl, rfl, by omega⟩ af zg zl zn
  ·
   refine qd (qo ae ?_);refine qg (qd ?_);refine ze rfl ?_;exact ⟨rfl, rfl⟩
end Go.Brd
namespace Go.Brd
open Go Go.Brd Go.Proofs
set_option linter.unusedVariables false
structure Part (l A : List Op) : Prop where
 sub : A.Sublist l
 closed : ∀ o ∈ A, ∀ p ∈ o.preds, p ∈ A.map idOf
theorem GOk.find {l : List Op} {p : ID} (h : p ∈ l.map idOf) : ∃ o ∈ l, idOf o = p := by
 obtain ⟨o, ho, e⟩ := List.mem_map.1 h; exact ⟨o, ho, e⟩
theorem BelowOf.part {l A : List Op} {qs : List ID} (hG : GOk l) (h : BelowOf l qs A) : Part l A := by
 refine ⟨h.sub, fun o ho p hp => ?_⟩;have hol := h.sub.subset ho;obtain ⟨q, hq, hd⟩ := (h.mem o hol).1 ho;obtain ⟨o2, ho2, rfl⟩ := GOk.find (hG.closed o hol p hp);exact List.mem_map.2 ⟨o2, (h.mem o2 ho2).2 ⟨q, hq, hd.trans (.step hol hp (.refl _))⟩, rfl⟩
theorem Part.ok {l A : List Op} (hG : GOk l) (h : Part l A) : GOk A := by
 obtain ⟨f, hf⟩ := hG.rank;exact ⟨Nat.le_trans h.sub.length_le hG.small, fun o ho => hG.ok o (h.sub.subset ho), risB_of_pairwise ((risB_pairwise hG.ris).sublist (h.sub.map idOf)), h.closed, ⟨f, fun o ho => hf o (h.sub.subset ho)⟩⟩
theorem Part.apt {l A B : List Op} (hG : GOk l) (hA : Part l A) (hB : Part l B) : Apt (A ++ B) := fun x hx y hy e => by
 have m : ∀ z ∈ A ++ B, z ∈ l := fun z hz => (List.mem_append.1 hz).elim (fun h => hA.sub.subset h) (fun h => hB.sub.subset h)
 exact hG.inj (m x hx) (m y hy) e
theorem rising_sub {l U : List Op} (hl : Rising l) (hU : Rising U) (hm : ∀ o ∈ U, o ∈ l) : U.Sublist l := by
 induction l generalizing U with
 | nil => cases U with
  | nil => exact List.Sublist.refl _
  | cons u U => exact absurd (hm u am) am
 | cons a l ih =>
  have hl1 : Rising l := (List.pairwise_cons.1 (show ((a :: l).map idOf).Pairwise _ from hl)).2;have hla := (List.pairwise_cons.1 (show ((a :: l).map idOf).Pairwise _ from hl)).1;cases U with
  | nil => exact List.nil_sublist _
  | cons u U =>
   have hU1 : Rising U := (List.pairwise_cons.1 (show ((u :: U).map idOf).Pairwise _ from hU)).2;have hUa := (List.pairwise_cons.1 (show ((u :: U).map idOf).Pairwise _ from hU)).1;rcases List.mem_cons.1 (hm u am) with h | h
   · subst h
     refine zv (ih hl1 hU1 fun o ho => ?_);rcases List.mem_cons.1 (hm o (by simp [ho])) with h2 | h2
     · subst h2
       have := hUa (idOf o) (List.mem_map.2 ⟨o, ho, rfl⟩);rw [cmp_id_iff.2 rfl] at this; omega
     · exact h2
   · refine zu (ih hl1 hU fun o ho => ?_)
     rcases List.mem_cons.1 ho with h2 | h2
     · rw [h2]; exact h
     · rcases List.mem_cons.1 (hm o (by simp [h2])) with h3 | h3
       · subst h3
         have h4 := hUa (idOf o) (List.mem_map.2 ⟨o, h2, rfl⟩);have h5 := hla (idOf u) (List.mem_map.2 ⟨u, h, rfl⟩);have := cmp_trans h4 h5;rw [cmp_id_iff.2 rfl] at this; omega
       · exact h3
theorem GOk.rising {l : List Op} (hG : GOk l) : Rising l := risB_pairwise hG.ris
structure Whole (A B U : List Op) : Prop where
 mem : ∀ o, o ∈ U ↔ o ∈ A ∨ o ∈ B
theorem union_part {l A B : List Op} (hG : GOk l) (hA : Part l A) (hB : Part l B) : Part l (unionO A B) ∧ Whole A B (unionO A B) := by
 have hw : Whole A B (unionO A B) := ⟨fun o => mem_unionO (hA.apt hG hB)⟩;have hm : ∀ o ∈ unionO A B, o ∈ l := fun o ho => ((hw.mem o).1 ho).elim (fun h => hA.sub.subset h) (fun h => hB.sub.subset h)
 refine ⟨⟨rising_sub hG.rising (unionO_rising (hA.ok hG).rising) hm, fun o ho p hp => ?_⟩, hw⟩;rcases (hw.mem o).1 ho with h | h
 · obtain ⟨q, hq, rfl⟩ := GOk.find (hA.closed o h p hp)
   exact List.mem_map.2 ⟨q, (hw.mem q).2 (.inl hq), rfl⟩
 · obtain ⟨q, hq, rfl⟩ := GOk.find (hB.closed o h p hp)
   exact List.mem_map.2 ⟨q, (hw.mem q).2 (.inr hq), rfl⟩
theorem Part.id_mem {l A : List Op} (hG : GOk l) (h : Part l A) {o : Op} (ho : o ∈ l) : idOf o ∈ A.map idOf ↔ o ∈ A := by
 constructor
 · intro hm
   obtain ⟨q, hq, e⟩ := List.mem_map.1 hm;have := hG.inj (h.sub.subset hq) ho e;rw [← this]; exact hq
 · intro hm; exact List.mem_map.2 ⟨o, hm, rfl⟩
theorem Part.dn {l A : List Op} (hG : GOk l) (h : Part l A) {x z : ID} (hx : x ∈ A.map idOf) : Dn A x z ↔ Dn l x z := by
 constructor
 · intro hd
   induction hd with
   | refl => exact .refl _
   | step ho hp _ ih => exact .step (h.sub.subset ho) hp (ih (h.closed _ ho _ hp))
 · intro hd
   induction hd with
   | refl => exact .refl _
   | step ho hp _ ih =>
    have hoA := (h.id_mem hG ho).1 hx;exact .step hoA hp (ih (h.closed _ hoA _ hp))
theorem Part.dn_in {l A : List Op} (hG : GOk l) (h : Part l A) {x z : ID} (hx : x ∈ A.map idOf) (hd : Dn l x z) : z ∈ A.map idOf := by
 induction hd with
 | refl => exact hx
 | step ho hp _ ih => exact ih (h.closed _ ((h.id_mem hG ho).1 hx) _ hp)
theorem Part.gone {l A : List Op} (hG : GOk l) (h : Part l A) {t : Tag} : Gone A A t ↔ ∃ r ∈ A, r.act.kind = 3 ∧ r.act.key = t.1 ∧ ∃ q ∈ r.preds, Dn l q t.2 := by
 constructor
 · rintro ⟨r, hr, h1, h2, q, hq, hd⟩; exact ⟨r, hr, h1, h2, q, hq, (h.dn hG (h.closed r hr q hq)).1 hd⟩
 · rintro ⟨r, hr, h1, h2, q, hq, hd⟩; exact ⟨r, hr, h1, h2, q, hq, (h.dn hG (h.closed r hr q hq)).2 hd⟩
theorem heads_merge {l A B U : List Op} (hG : GOk l) (hA : Part l A) (hB : Part l B) (hU : Part l U) (hW : Whole A B U) {ha hb hu S : List ID} (h1 : HeadsOf A ha) (h2 : HeadsOf B hb) (h3 : HeadsOf U hu)
 (hS : SortOf (keptL ha hb (B.map idOf) ++ keptL hb ha (A.map idOf)) S) : hu = S := by
 have hidU : ∀ z, z ∈ U.map idOf ↔ z ∈ A.map idOf ∨ z ∈ B.map idOf := fun z => by
  constructor
  · intro hz
    obtain ⟨o, ho, rfl⟩ := List.mem_map.1 hz;exact ((hW.mem o).1 ho).imp (fun h => List.mem_map.2 ⟨o, h, rfl⟩) (fun h => List.mem_map.2 ⟨o, h, rfl⟩)
  · rintro (hz | hz)
    · obtain ⟨o, ho, rfl⟩ := List.mem_map.1 hz; exact List.mem_map.2 ⟨o, (hW.mem o).2 (.inl ho), rfl⟩
    · obtain ⟨o, ho, rfl⟩ := List.mem_map.1 hz; exact List.mem_map.2 ⟨o, (hW.mem o).2 (.inr ho), rfl⟩
 have hA2 : ∀ z, z ∈ ha ↔ z ∈ A.map idOf ∧ ∀ o ∈ A, z ∉ o.preds := fun z => ⟨fun h => ⟨h1.sub.subset h, (h1.mem z (h1.sub.subset h)).1 h⟩, fun ⟨h, h'⟩ => (h1.mem z h).2 h'⟩
 have hB2 : ∀ z, z ∈ hb ↔ z ∈ B.map idOf ∧ ∀ o ∈ B, z ∉ o.preds := fun z => ⟨fun h => ⟨h2.sub.subset h, (h2.mem z (h2.sub.subset h)).1 h⟩, fun ⟨h, h'⟩ => (h2.mem z h).2 h'⟩
 have hU2 : ∀ z, z ∈ hu ↔ z ∈ U.map idOf ∧ ∀ o ∈ U, z ∉ o.preds := fun z => ⟨fun h => ⟨h3.sub.subset h, (h3.mem z (h3.sub.subset h)).1 h⟩, fun ⟨h, h'⟩ => (h3.mem z h).2 h'⟩
 refine SortOf.uniq (((hU.ok hG).rising).sublist h3.sub) hS fun z => ?_
 rw [List.mem_append];unfold keptL;simp only [List.mem_filter, Bool.or_eq_true, decide_eq_true_eq, Bool.not_eq_true', decide_eq_false_iff_not];constructor
 · intro hz
   obtain ⟨hz1, hz2⟩ := (hU2 z).1 hz;have nA : ∀ o ∈ A, z ∉ o.preds := fun o ho => hz2 o ((hW.mem o).2 (.inl ho))
   have nB : ∀ o ∈ B, z ∉ o.preds := fun o ho => hz2 o ((hW.mem o).2 (.inr ho))
   rcases (hidU z).1 hz1 with h | h
   · refine .inl ⟨(hA2 z).2 ⟨h, nA⟩, ?_⟩
     by_cases e : z ∈ B.map idOf
     · exact .inl ((hB2 z).2 ⟨e, nB⟩)
     · exact .inr e
   · refine .inr ⟨(hB2 z).2 ⟨h, nB⟩, ?_⟩
     by_cases e : z ∈ A.map idOf
     · exact .inl ((hA2 z).2 ⟨e, nA⟩)
     · exact .inr e
 · rintro (⟨h, h'⟩ | ⟨h, h'⟩)
   · obtain ⟨i1, i2⟩ := (hA2 z).1 h
     refine (hU2 z).2 ⟨(hidU z).2 (.inl i1), fun o ho hm => ?_⟩;rcases (hW.mem o).1 ho with e | e
     · exact i2 o e hm
     · rcases h' with h' | h'
       · exact ((hB2 z).1 h').2 o e hm
       · exact h' (hB.closed o e z hm)
   · obtain ⟨i1, i2⟩ := (hB2 z).1 h
     refine (hU2 z).2 ⟨(hidU z).2 (.inr i1), fun o ho hm => ?_⟩;rcases (hW.mem o).1 ho with e | e
     · rcases h' with h' | h'
       · exact ((hA2 z).1 h').2 o e hm
       · exact h' (hA.closed o e z hm)
     · exact i2 o e hm
theorem strict_uniq {α : Type} {cf : α → α → Int} (self : ∀ x, ¬ cf x x < 0) (trans : ∀ x y z, cf x y < 0 → cf y z < 0 → cf x z < 0) : ∀ {A B : List α}, A.Pairwise (fun a b => cf a b < 0) → B.Pairwise (fun a b => cf a b < 0) → (∀ z, z ∈ A ↔ z ∈ B) → A = B := by
 intro A
 induction A with
 | nil => intro B _ _ hm; cases B with
  | nil => rfl
  | cons b B => exact absurd ((hm b).2 am) am
 | cons a A ih =>
  intro B hA hB hm;cases B with
  | nil => exact absurd ((hm a).1 am) am
  | cons b B =>
   have hA1 := List.pairwise_cons.1 hA;have hB1 := List.pairwise_cons.1 hB
   have hab : a = b := by
    rcases List.mem_cons.1 ((hm a).1 am) with h | h
    · exact h
    · rcases List.mem_cons.1 ((hm b).2 am) with h2 | h2
      · exact h2.symm
      · exact absurd (trans _ _ _ (hA1.1 b h2) (hB1.1 a h)) (self a)
   subst hab;congr 1
   refine ih hA1.2 hB1.2 fun z => ⟨fun hz => ?_, fun hz => ?_⟩
   · rcases List.mem_cons.1 ((hm z).1 (by simp [hz])) with h | h
     · rw [h] at hz; exact absurd (hA1.1 a hz) (self a)
     · exact h
   · rcases List.mem_cons.1 ((hm z).2 (by simp [hz])) with h | h
     · rw [h] at hz; exact absurd (hB1.1 a hz) (self a)
     · exact h
theorem tags_nodup {T : List Tag} (h : T.Pairwise fun a b => tcmp a b < 0) : T.Nodup := h.imp fun {a b} h e => by rw [tcmp_zero.2 e] at h; omega
theorem tags_merge {l A B U : List Op} (hG : GOk l) (hA : Part l A) (hB : Part l B) (hU : Part l U) (hW : Whole A B U) {X Y Z T : List Tag} (h1 : TagsOf A X) (h2 : TagsOf B Y) (h3 : TagsOf U Z)
 (hp : T.Perm (mergeT X Y (A.map idOf) (B.map idOf))) (hs : T.Pairwise fun a b => ¬ tcmp b a < 0) : Z = T := by
 have inA : ∀ t, t ∈ X → t.2 ∈ A.map idOf := fun t ht => by
  obtain ⟨o, ho, _, rfl, _⟩ := (h1.mem t).1 ht; exact List.mem_map.2 ⟨o, ho, rfl⟩
 have hnd : (mergeT X Y (A.map idOf) (B.map idOf)).Nodup := by
  unfold mergeT;rw [List.nodup_append];refine ⟨(tags_nodup h1.ris).sublist List.filter_sublist, (tags_nodup h2.ris).sublist List.filter_sublist, fun a ha b hb e => ?_⟩;have hb2 := (List.mem_filter.1 hb).2;simp only [Bool.not_eq_true', decide_eq_false_iff_not] at hb2;exact hb2 (by rw [← e]; exact inA a (List.mem_filter.1 ha).1)
 have hst := strict_of tcmp_flip (fun x y => tcmp_zero.1) (hp.nodup_iff.2 hnd) hs;refine strict_uniq (cf := tcmp) (fun x h => by rw [(tcmp_zero (x := x) (y := x)).2 rfl] at h; omega) (fun x y z => tcmp_trans) h3.ris hst fun t => ?_
 rw [hp.mem_iff, h3.mem t];unfold mergeT;simp only [List.mem_append, List.mem_filter, Bool.or_eq_true, Bool.not_eq_true', decide_eq_false_iff_not, hasT_iff, h1.mem t, h2.mem t]
 have gU : Gone U U t ↔ Gone A A t ∨ Gone B B t := by
  rw [hA.gone (t := t) hG, hB.gone (t := t) hG, hU.gone (t := t) hG];constructor
  · rintro ⟨r, hr, h⟩; exact ((hW.mem r).1 hr).imp (fun e => ⟨r, e, h⟩) (fun e => ⟨r, e, h⟩)
  · rintro (⟨r, hr, h⟩ | ⟨r, hr, h⟩)
    · exact ⟨r, (hW.mem r).2 (.inl hr), h⟩
    · exact ⟨r, (hW.mem r).2 (.inr hr), h⟩
 have gIn : ∀ {C : List Op}, Part l C → Gone C C t → t.2 ∈ C.map idOf := fun {C} hC hg => by
  obtain ⟨r, hr, _, _, q, hq, hd⟩ := (hC.gone hG).1 hg;exact hC.dn_in hG (hC.closed r hr q hq) hd
 constructor
 · rintro ⟨o, ho, hk, rfl, hng⟩
   have hng2 := fun h => hng (gU.2 h)
   have hol := hU.sub.subset ho;by_cases hoA : o ∈ A
   · refine .inl ⟨⟨o, hoA, hk, rfl, fun h => hng2 (.inl h)⟩, ?_⟩
     by_cases hoB : o ∈ B
     · exact .inl ⟨o, hoB, hk, rfl, fun h => hng2 (.inr h)⟩
     · exact .inr fun hm => hoB ((hB.id_mem hG hol).1 hm)
   · have hoB := ((hW.mem o).1 ho).resolve_left hoA
     exact .inr ⟨⟨o, hoB, hk, rfl, fun h => hng2 (.inr h)⟩, fun hm => hoA ((hA.id_mem hG hol).1 hm)⟩
 · rintro (⟨⟨o, ho, hk, rfl, hng⟩, h⟩ | ⟨⟨o, ho, hk, rfl, hng⟩, h⟩)
   · refine ⟨o, (hW.mem o).2 (.inl ho), hk, rfl, fun hg => ?_⟩
     rcases gU.1 hg with hg | hg
     · exact hng hg
     · rcases h with ⟨_, _, _, _, h⟩ | h
       · exact h hg
       · exact h (gIn hB hg)
   · refine ⟨o, (hW.mem o).2 (.inr ho), hk, rfl, fun hg => ?_⟩
     rcases gU.1 hg with hg | hg
     · exact h (gIn hA hg)
     · exact hng hg
theorem stepR_key {Y : List Reg} {x : Reg} : (stepR Y x).key = x.key := by
 unfold stepR;cases hf : Y.find? (fun q => decide (q.key = x.key)) with
 | none => rfl
 | some p =>
  have h2 := List.find?_some hf;have h3 := of_decide_eq_true h2;simp only;split
  · exact h3
  · rfl
theorem regs_merge {l A B U : List Op} (hG : GOk l) (hA : Part l A) (hB : Part l B) (hW : Whole A B U) {X Y Z R : List Reg} (h1 : RegsOf A X) (h2 : RegsOf B Y) (h3 : RegsOf U Z)
 (hp : R.Perm (mergeR X Y)) (hs : R.Pairwise fun a b => ¬ kcmp b.key a.key < 0) : Z = R := by
 have ndk : ∀ {W : List Reg}, RSort W → (W.map (·.key)).Nodup := fun {W} hW => by
  show List.Pairwise _ _;rw [List.pairwise_map];exact hW.imp fun {a b} h e => by rw [kcmp_zero.2 e] at h; omega
 have hndk : ((mergeR X Y).map (·.key)).Nodup := by
  unfold mergeR;rw [List.map_append, List.nodup_append]
  have e : (X.map (stepR Y)).map (·.key) = X.map (·.key) := by
   rw [List.map_map]; exact List.map_congr_left fun x _ => stepR_key
  refine ⟨by rw [e]; exact ndk h1.ris, (ndk h2.ris).sublist (List.filter_sublist.map _), fun a ha b hb e2 => ?_⟩;rw [e] at ha;obtain ⟨x, hx, rfl⟩ := List.mem_map.1 ha;obtain ⟨y, hy, rfl⟩ := List.mem_map.1 hb;have hy2 := (List.mem_filter.1 hy).2;simp only [Bool.not_eq_true', List.any_eq_false, decide_eq_true_eq] at hy2;exact hy2 x hx e2
 have hst : R.Pairwise fun a b => kcmp a.key b.key < 0 := by
  have hn : (R.map (·.key)).Nodup := ((hp.map (·.key)).nodup_iff).2 hndk;have hn2 : R.Pairwise fun a b => a.key ≠ b.key := List.pairwise_map.1 hn
  exact (hs.and hn2).imp fun {a b} ⟨i1, i2⟩ => by
   have := kcmp_flip a.key b.key;have h3 : kcmp a.key b.key ≠ 0 := fun e => i2 (kcmp_zero.1 e)
   omega
 refine strict_uniq (cf := fun a b : Reg => kcmp a.key b.key) (fun x h => by rw [kcmp_zero.2 rfl] at h; omega) (fun x y z => kcmp_trans) h3.ris hst fun r => ?_
 rw [hp.mem_iff, h3.mem r];unfold mergeR;rw [List.mem_append, List.mem_map, List.mem_filter];simp only [Bool.not_eq_true', List.any_eq_false, decide_eq_true_eq]
 have tr : ∀ a b c : Reg, 0 < rcmp a b → ¬ 0 < rcmp c b → 0 < rcmp a c := fun a b c i1 i2 => by
  have f1 := rcmp_flip a b; have f2 := rcmp_flip b c; have f3 := rcmp_flip a c; have f4 := rcmp_flip c b
  by_cases e : rcmp b c = 0
  ·
   have : rcmp c a < 0 := by
    unfold rcmp at *;by_cases e1 : scmp b.stamp c.stamp = 0
    · rw [if_pos e1] at e
      rw [← scmp_zero.1 e1, ← cmp_id_iff.1 e];omega
    · rw [if_neg e1] at e; exact absurd e e1
   omega
  · have := rcmp_trans (x := c) (y := b) (z := a) af af
    omega
 have key_of : ∀ {C : List Op} {W : List Reg}, RegsOf C W → ∀ p ∈ C, p.act.kind = 4 → ∃ q ∈ C, q.act.kind = 4 ∧ regOf q ∈ W ∧ q.act.key = p.act.key ∧ ¬ 0 < rcmp (regOf p) (regOf q) := fun {C W} hC p hp hpk => by
  obtain ⟨w, hw, hwk⟩ := hC.all p hp hpk;obtain ⟨q, hq, hqk, rfl, hmax⟩ := (hC.mem w).1 hw;exact ⟨q, hq, hqk, hw, hwk, hmax p hp hpk hwk.symm⟩
 constructor
 · rintro ⟨o, ho, hk, rfl, hmax⟩
   have mA : ∀ p ∈ A, p.act.kind = 4 → p.act.key = o.act.key → ¬ 0 < rcmp (regOf p) (regOf o) := fun p hp => hmax p ((hW.mem p).2 (.inl hp))
   have mB : ∀ p ∈ B, p.act.kind = 4 → p.act.key = o.act.key → ¬ 0 < rcmp (regOf p) (regOf o) := fun p hp => hmax p ((hW.mem p).2 (.inr hp))
   by_cases hoA : o ∈ A
   · have hX : regOf o ∈ X := (h1.mem _).2 ⟨o, hoA, hk, rfl, mA⟩
     refine .inl ⟨regOf o, hX, ?_⟩;by_cases hq : ∃ q ∈ Y, q.key = (regOf o).key
     · obtain ⟨q, hq, e⟩ := hq
       rw [stepR_some h2.ris hq e];obtain ⟨p, hp, hpk, rfl, _⟩ := (h2.mem q).1 hq;rw [if_neg (mB p hp hpk e)]
     · exact stepR_none fun q hq2 e => hq ⟨q, hq2, e⟩
   · have hoB := ((hW.mem o).1 ho).resolve_left hoA
     have hY : regOf o ∈ Y := (h2.mem _).2 ⟨o, hoB, hk, rfl, mB⟩;by_cases hx : ∃ x ∈ X, x.key = (regOf o).key
     · obtain ⟨x, hx, e⟩ := hx
       refine .inl ⟨x, hx, ?_⟩;rw [stepR_some h2.ris hY e.symm];obtain ⟨p, hp, hpk, rfl, _⟩ := (h1.mem x).1 hx;have i1 := mA p hp hpk e
       have i2 : rcmp (regOf p) (regOf o) ≠ 0 := fun e0 => hoA (by
        have := hG.inj (hA.sub.subset hp) (hB.sub.subset hoB) (rcmp_id e0);rw [← this]; exact hp)
       have := rcmp_flip (regOf p) (regOf o);rw [if_pos af]
     · exact .inr ⟨hY, fun x hx2 e => hx ⟨x, hx2, e⟩⟩
 · rintro (⟨x, hx, rfl⟩ | ⟨hY, hno⟩)
   · obtain ⟨o, ho, hk, rfl, hmax⟩ := (h1.mem x).1 hx
     by_cases hq : ∃ q ∈ Y, q.key = (regOf o).key
     · obtain ⟨q, hq, e⟩ := hq
       obtain ⟨p, hp, hpk, rfl, hmaxp⟩ := (h2.mem q).1 hq;rw [stepR_some h2.ris hq e];by_cases hlt : 0 < rcmp (regOf p) (regOf o)
       · rw [if_pos hlt]
         refine ⟨p, (hW.mem p).2 (.inr hp), hpk, rfl, fun z hz hzk ez => ?_⟩;rcases (hW.mem z).1 hz with hz | hz
         · have hzo := hmax z hz hzk (ez.trans e)
           intro hc;have f1 := rcmp_flip (regOf z) (regOf p); have f2 := rcmp_flip (regOf p) (regOf o); have f3 := rcmp_flip (regOf z) (regOf o)
           have := rcmp_trans (x := regOf o) (y := regOf p) (z := regOf z) af af;omega
         · exact hmaxp z hz hzk ez
       · rw [if_neg hlt]
         refine ⟨o, (hW.mem o).2 (.inl ho), hk, rfl, fun z hz hzk ez => ?_⟩;rcases (hW.mem z).1 hz with hz | hz
         · exact hmax z hz hzk ez
         · have hzp := hmaxp z hz hzk (ez.trans e.symm)
           intro hc;have := tr (regOf z) (regOf o) (regOf p) hc hlt;exact hzp this
     · rw [stepR_none fun q hq2 e => hq ⟨q, hq2, e⟩]
       refine ⟨o, (hW.mem o).2 (.inl ho), hk, rfl, fun z hz hzk ez => ?_⟩;rcases (hW.mem z).1 hz with hz | hz
       · exact hmax z hz hzk ez
       · obtain ⟨q, _, _, hqY, hqk, _⟩ := key_of h2 z hz hzk
         exact absurd ⟨regOf q, hqY, hqk.trans ez⟩ hq
   · obtain ⟨o, ho, hk, rfl, hmax⟩ := (h2.mem r).1 hY
     refine ⟨o, (hW.mem o).2 (.inr ho), hk, rfl, fun z hz hzk ez => ?_⟩;rcases (hW.mem z).1 hz with hz | hz
     · obtain ⟨q, _, _, hqX, hqk, _⟩ := key_of h1 z hz hzk
       exact absurd (hqk.trans ez) (hno _ hqX)
     · exact hmax z hz hzk ez
theorem count_merge {l A B U : List Op} (hG : GOk l) (hA : Part l A) (hB : Part l B) (hU : Part l U) (hW : Whole A B U) {C : List ID} (hC : PickOf (A.map idOf ++ B.map idOf) (fun n => decide (n = 2)) C) : U.length + C.length = A.length + B.length := by
 have nA := (hA.ok hG).nodup;have nB := (hB.ok hG).nodup;have nU := (hU.ok hG).nodup
 have hCm : ∀ x, x ∈ C ↔ x ∈ A.map idOf ∧ x ∈ B.map idOf := fun x => by
  rw [hC.mem x, decide_eq_true_eq, cntL_two nA nB];exact ⟨fun h => h.2, fun h => ⟨List.mem_append_left _ h.1, h⟩⟩
 have nA' : A.Nodup := List.Pairwise.of_map idOf (fun a b h e => h (by rw [e])) nA;have nB' : B.Nodup := List.Pairwise.of_map idOf (fun a b h e => h (by rw [e])) nB;have nU' : U.Nodup := List.Pairwise.of_map idOf (fun a b h e => h (by rw [e])) nU
 have p1 : U.Perm (A ++ B.filter fun o => !decide (idOf o ∈ A.map idOf)) := by
  refine (List.perm_ext_iff_of_nodup nU' ?_).2 fun o => ?_
  · rw [List.nodup_append]
    refine ⟨nA', nB'.sublist List.filter_sublist, fun a ha b hb e => ?_⟩;have := (List.mem_filter.1 hb).2;simp only [Bool.not_eq_true', decide_eq_false_iff_not] at this;exact this (by rw [← e]; exact List.mem_map.2 ⟨a, ha, rfl⟩)
  · rw [List.mem_append, List.mem_filter, hW.mem o]
    simp only [Bool.not_eq_true', decide_eq_false_iff_not];constructor
    · intro h
      by_cases e : o ∈ A
      · exact .inl e
      · have hb := h.resolve_left e
        exact .inr ⟨hb, fun hm => e ((hA.id_mem hG (hB.sub.subset hb)).1 hm)⟩
    · rintro (h | ⟨h, _⟩)
      · exact .inl h
      · exact .inr h
 have p2 : C.Perm ((B.filter fun o => decide (idOf o ∈ A.map idOf)).map idOf) := by
  refine (List.perm_ext_iff_of_nodup hC.nd (nB.sublist (List.filter_sublist.map idOf))).2 fun x => ?_
  rw [hCm x];constructor
  · rintro ⟨h1, h2⟩
    obtain ⟨o, ho, rfl⟩ := List.mem_map.1 h2;exact List.mem_map.2 ⟨o, List.mem_filter.2 ⟨ho, decide_eq_true h1⟩, rfl⟩
  · intro h
    obtain ⟨o, ho, rfl⟩ := List.mem_map.1 h;obtain ⟨h1, h2⟩ := List.mem_filter.1 ho;exact ⟨of_decide_eq_true h2, List.mem_map.2 ⟨o, h1, rfl⟩⟩
 have l1 := p1.length_eq;have l2 := p2.length_eq;rw [List.length_append] at l1;rw [List.length_map] at l2
 have l3 : (B.filter fun o => decide (idOf o ∈ A.map idOf)).length + (B.filter fun o => !decide (idOf o ∈ A.map idOf)).length = B.length := by
  have := List.length_eq_countP_add_countP (fun o => decide (idOf o ∈ A.map idOf)) (l := B);rw [List.countP_eq_length_filter, List.countP_eq_length_filter] at this;rw [this];congr 1
  congr 1
  apply List.filter_congr;intro x _;by_cases hd : idOf x ∈ A.map idOf
  · rw [decide_eq_true hd]; rfl
  · rw [decide_eq_false hd]; rfl
 omega
end Go.Brd
namespace Go.Brd
open Go Go.Brd Go.Proofs
set_option linter.unusedVariables false
theorem fi_42_0 : fieldIs Tryz.prog 42 0 0 = true := by kernel_rfl
theorem fi_42_1 : fieldIs Tryz.prog 42 1 1 = true := by kernel_rfl
theorem pl_f12 : plain Tryz.prog 12 = true := by kernel_rfl
theorem GR.one {h : GH} {g : GrE} (r : GR h g) : (grC g).all oneCell = true := grC_one r
theorem stC_one {h : GH} {s : StE} (r : SR h s) : (stC s).all oneCell = true := by
 unfold stC; simp only [List.all_cons, List.all_nil, Sl.one r.tags, Sl.one r.regs, Sl.one r.heads]; rfl
theorem StateOf.t32 {l : List Op} {s : StE} (h : StateOf l s) : ∀ t ∈ s.tags, t.2.length = 32 := fun t ht => by
 obtain ⟨o, _, _, rfl, _⟩ := (h.tags.mem t).1 ht; exact idOf_len o
theorem StateOf.rok {l : List Op} {s : StE} (hG : GOk l) (h : StateOf l s) : ∀ r ∈ s.regs, RegOk r := h.regs.ok hG.key
theorem StateOf.hl {l : List Op} {s : StE} (hG : GOk l) (h : StateOf l s) : s.heads.length ≤ 60 := by
 have h1 := h.heads.sub.length_le;have h2 := hG.small;rw [List.length_map] at h1; omega
theorem two_gs {h : GH} {a b : GrE} (ha : GR h a) (hb : GR h b) : ∀ g ∈ [a, b], GR h g := fun g hg => by
 rcases List.mem_cons.1 hg with e | e
 · rw [e]; exact ha
 · have : g = b := by simpa using e
   rw [this]; exact hb
theorem two_ok {a b : GrE} (ha : GOk (fst1 a.xs)) (hb : GOk (fst1 b.xs)) : ∀ g ∈ [a, b], GOk (fst1 g.xs) := fun g hg => by
 rcases List.mem_cons.1 hg with e | e
 · rw [e]; exact ha
 · have : g = b := by simpa using e
   rw [this]; exact hb
theorem two_apt {a b : GrE} (h : Apt (fst1 a.xs ++ fst1 b.xs)) : Apt (allOps [a, b]) := by
 have e : allOps [a, b] = fst1 a.xs ++ fst1 b.xs := by simp [allOps]
 rw [e]; exact h
theorem two_ids (a b : GrE) : idsG [a, b] = (fst1 a.xs).map idOf ++ (fst1 b.xs).map idOf := by simp [idsG]
theorem top_merged {c : World} {h : GH} {L : Own} {iv ov lv mv : Value} {ids l m : List ID} {xs : List (Op × Value)} (hg : GK h) (hi : RIds h iv ids) (ho : ROps h ov xs) (hl : RIds h lv l) (hm : RIds h mv m):
 Fun Tryz.prog c 3 #[gV iv ov, lv, mv] h L (fun u _ L' => u = .bool true ∧ L = L') := by
 refine kF (N := 178) (args := [gV iv ov, lv, mv]) Tryz.func3 ?_;refine qo ae ?_;refine qg (box_at rfl ?_);intro p3 h2 le1 hp3;replace hg := hg.mono le1; replace hi := hi.mono le1; replace ho := ho.mono le1; replace hl := hl.mono le1; replace hm := hm.mono le1;refine qg (qd (qo ae ?_));refine qg (qc (alive42 hg) ?_);rintro v23 h4 L_ le3 ⟨rfl, rfl⟩;replace hg := hg.mono le3; replace hi := hi.mono le3; replace ho := ho.mono le3; replace hl := hl.mono le3; replace hm := hm.mono le3; replace hp3 := hp3.mono le3;refine qg (qd (qo ae ?_));refine qg (qg (not_tt ?_));refine qg (kG rfl rfl ?_);refine qX ag_25 aa ag ?_;refine kG rfl rfl ?_;refine qc (validw hi ho) ?_;rintro v28 h6 L_ le5 ⟨⟨bv, rfl, hbv⟩, rfl⟩;replace hg := hg.mono le5; replace hi := hi.mono le5; replace ho := ho.mono le5; replace hl := hl.mono le5; replace hm := hm.mono le5; replace hp3 := hp3.mono le5;cases bv
 ·
  refine kG rfl rfl ?_;refine not_ff ?_;refine qg (qg (qk rfl rfl ?_));refine qk rfl rfl ?_;refine qk rfl rfl ?_;refine qg (qg (qk rfl rfl ?_));refine qk rfl rfl ?_;refine qk rfl rfl ?_;refine qg (qg (qk rfl rfl ?_));refine qk rfl rfl ?_;refine qk rfl rfl ?_;refine qk rfl rfl ?_;refine qk rfl rfl ?_;refine qg (qg (qk rfl rfl ?_));refine qk rfl rfl ?_;refine qk rfl rfl ?_;refine qk rfl rfl ?_;refine qk rfl rfl ?_;refine qg (qd (qo ae ?_));refine qg (qg (qd ?_));refine ze rfl ?_;exact ⟨rfl, rfl⟩
 ·
  obtain ⟨rfl, hG, h16⟩ := hbv rfl;have hfl := fst1_len xs;refine kG rfl rfl ?_;refine not_tt ?_;refine qg (qg (kG rfl rfl ?_));refine kG rfl rfl ?_;refine qm sl_22 hl ?_;refine kG rfl rfl ?_;refine gtrB (fun c34 => ?_) (fun c34 => ?_)
  ·
   refine qg (qg (qk rfl rfl ?_));refine qk rfl rfl ?_;refine qk rfl rfl ?_;refine qg (qg (qk rfl rfl ?_));refine qk rfl rfl ?_;refine qk rfl rfl ?_;refine qk rfl rfl ?_;refine qk rfl rfl ?_;refine qg (qg (qk rfl rfl ?_));refine qk rfl rfl ?_;refine qk rfl rfl ?_;refine qk rfl rfl ?_;refine qk rfl rfl ?_;refine qg (qd (qo ae ?_));refine qg (qg (qd ?_));refine ze rfl ?_;exact ⟨rfl, rfl⟩
  ·
   refine qg (qg (kG rfl rfl ?_));refine kG rfl rfl ?_;refine qm sl_22 hm ?_;refine kG rfl rfl ?_;refine gtrB (fun c39 => ?_) (fun c39 => ?_)
   ·
    refine qg (qg (qk rfl rfl ?_));refine qk rfl rfl ?_;refine qk rfl rfl ?_;refine qk rfl rfl ?_;refine qk rfl rfl ?_;refine qg (qg (qk rfl rfl ?_));refine qk rfl rfl ?_;refine qk rfl rfl ?_;refine qk rfl rfl ?_;refine qk rfl rfl ?_;refine qg (qd (qo ae ?_));refine qg (qg (qd ?_));refine ze rfl ?_;exact ⟨rfl, rfl⟩
   ·
    refine qg (qg (kG rfl rfl ?_));refine qf fi_25_0 aa ?_;intro p42 hp42;refine kG rfl rfl ?_;refine ql (v := iv) sc_22 hp42 ?_;refine kG rfl rfl ?_;refine kG rfl rfl ?_;refine qc (ref_all hi hl) ?_;rintro v45 h8 L_ le7 ⟨rfl, rfl⟩;replace hg := hg.mono le7; replace hi := hi.mono le7; replace ho := ho.mono le7; replace hl := hl.mono le7; replace hm := hm.mono le7; replace hp3 := hp3.mono le7;cases hb45 : decide (∀ x ∈ l, x ∈ (fst1 xs).map idOf)
    ·
     refine kG rfl rfl ?_;refine not_ff ?_;refine qg (qg (qk rfl rfl ?_));refine qk rfl rfl ?_;refine qk rfl rfl ?_;refine qk rfl rfl ?_;refine qk rfl rfl ?_;refine qg (qd (qo ae ?_));refine qg (qg (qd ?_));refine ze rfl ?_;exact ⟨rfl, rfl⟩
    ·
     refine kG rfl rfl ?_;refine not_tt ?_;refine qg (qg (kG rfl rfl ?_));refine qf fi_25_0 aa ?_;intro p49 hp49;refine kG rfl rfl ?_;refine ql (v := iv) sc_22 hp49 ?_;refine kG rfl rfl ?_;refine kG rfl rfl ?_;refine qc (ref_all hi hm) ?_;rintro v52 h10 L_ le9 ⟨rfl, rfl⟩;replace hg := hg.mono le9; replace hi := hi.mono le9; replace ho := ho.mono le9; replace hl := hl.mono le9; replace hm := hm.mono le9; replace hp3 := hp3.mono le9;cases hb52 : decide (∀ x ∈ m, x ∈ (fst1 xs).map idOf)
     ·
      refine kG rfl rfl ?_;refine not_ff ?_;refine qg (qd (qo ae ?_));refine qg (qg (qd ?_));refine ze rfl ?_;exact ⟨rfl, rfl⟩
     ·
      have hall1 := of_decide_eq_true hb45;have hall2 := of_decide_eq_true hb52;refine kG rfl rfl ?_;refine not_tt ?_;refine qg (qd (qo ae ?_));refine qg (qX ag_25 aa ag ?_);refine qg (qg (qc (anc_below hg hi ho hG hl af hall1) ?_));rintro v59 h12 L_ le11 ⟨⟨gA, rfl, hgA, hbA⟩, rfl⟩;replace hg := hg.mono le11; replace hi := hi.mono le11; replace ho := ho.mono le11; replace hl := hl.mono le11; replace hm := hm.mono le11; replace hp3 := hp3.mono le11;have pA := hbA.part hG;have oA := pA.ok hG;have sA0 := oA.small;refine qg (qg (qg (qg (qa zc_25 ?_))));intro b8;refine qg (kB (l' := grC gA) si_25 ac ai (grC_one hgA) kR ab rfl kR.symm ?_);refine qg (qd (qo ae ?_));refine qg (qX ag_25 aa ag ?_);refine qg (qg (qc (anc_below hg hi ho hG hm af hall2) ?_));rintro v65 h14 L_ le13 ⟨⟨gB, rfl, hgB, hbB⟩, rfl⟩;replace hg := hg.mono le13; replace hl := hl.mono le13; replace hgA := hgA.mono le13;have pB := hbB.part hG;have oB := pB.ok hG;have sB0 := oB.small;obtain ⟨pU, hW⟩ := union_part hG pA pB;have oU := pU.ok hG;have sU0 := oU.small;have hApt := pA.apt hG pB;refine qg (qg (qg (qg (qa zc_25 ?_))));intro b10;refine qg (kB (l' := grC gB) si_25 ac ai (grC_one hgB) kR ab rfl kR.symm ?_);refine qg (qd (qo ae ?_));refine qg (qx (r := grC gA) ag_25 (kT kH) ab rfl ?_);refine qg (qx (r := grC gB) ag_25 kH ab rfl ?_);refine qg (qc (dag_union hg hgA.ids hgA.ops oA hgB.ids hgB.ops oB hApt sU0) ?_);rintro v71 h16 L_ le15 ⟨⟨gU, rfl, hgU, hfU⟩, rfl⟩;replace hg := hg.mono le15; replace hl := hl.mono le15; replace hgA := hgA.mono le15; replace hgB := hgB.mono le15;rw [← hfU] at pU hW oU sU0;refine qg (qg (qg (qg (qa zc_25 ?_))));intro b12;refine qg (kB (l' := grC gU) si_25 ac ai (grC_one hgU) kR ab rfl kR.symm ?_);refine qg (qd (qo ae ?_));refine qg (qx (r := grC gA) ag_25 (kT (kT kH)) ab rfl ?_);refine qg (qx (r := grC gB) ag_25 (kT kH) ab rfl ?_);refine qg (buildSliceN (ls := [grC gA, grC gB]) sl_34 zc_25 (qy ac (qy ac Parts.nil)) rfl rfl (all2 rfl rfl) (all2 (grC_one hgA) (grC_one hgB)) ah ah ?_);intro v77 h18 le17 hv77;replace hg := hg.mono le17; replace hl := hl.mono le17; replace hgA := hgA.mono le17; replace hgB := hgB.mono le17; replace hgU := hgU.mono le17;refine qg (qc (conv_common (gs := [gA, gB]) hg ⟨hv77, two_gs hgA hgB⟩ (two_ok oA oB) am (two_apt hApt)) ?_);rintro v78 h20 L_ le19 ⟨⟨ivc, ovc, rfl, hovc, C, hC, hpk⟩, rfl⟩;replace hg := hg.mono le19; replace hl := hl.mono le19; replace hgA := hgA.mono le19; replace hgB := hgB.mono le19; replace hgU := hgU.mono le19;have hcnt := count_merge hG pA pB pU hW (C := C) (by rw [two_ids] at hpk; exact hpk);refine qg (qg (qg (qg (qa zc_25 ?_))));intro b14;refine qg (kB (l' := [ivc, ovc]) si_25 ac ai (show ([ivc, ovc] : List Value).all oneCell = true by simp [Sl.one hC, hovc]) kR ab rfl kR.symm ?_);refine qg (qd (qo ae ?_));refine qg (qx (r := grC gA) ag_25 (kT (kT (kT kH))) ab rfl ?_);refine qg (qc (fold_of hg hgA.ids hgA.ops oA) ?_);rintro v83 h22 L_ le21 ⟨⟨sA, rfl, hsA, hoA⟩, rfl⟩;replace hg := hg.mono le21; replace hl := hl.mono le21; replace hgA := hgA.mono le21; replace hgB := hgB.mono le21; replace hgU := hgU.mono le21; replace hC := hC.mono le21;refine qg (qg (qg (qg (qa zc_42 ?_))));intro b16;refine qg (kB (l' := stC sA) si_42 ac ai (stC_one hsA) kR ab rfl kR.symm ?_);refine qg (qd (qo ae ?_));refine qg (qx (r := grC gB) ag_25 (kT (kT (kT kH))) ab rfl ?_);refine qg (qc (fold_of hg hgB.ids hgB.ops oB) ?_);rintro v88 h24 L_ le23 ⟨⟨sB, rfl, hsB, hoB⟩, rfl⟩;replace hg := hg.mono le23; replace hl := hl.mono le23; replace hgA := hgA.mono le23; replace hgB := hgB.mono le23; replace hgU := hgU.mono le23; replace hC := hC.mono le23; replace hsA := hsA.mono le23;refine qg (qg (qg (qg (qa zc_42 ?_))));intro b18;refine qg (kB (l' := stC sB) si_42 ac ai (stC_one hsB) kR ab rfl kR.symm ?_);refine qg (qd (qo ae ?_));refine qg (qx (r := grC gU) ag_25 (kT (kT (kT kH))) ab rfl ?_);refine qg (qc (fold_of hg hgU.ids hgU.ops oU) ?_);rintro v93 h26 L_ le25 ⟨⟨sU, rfl, hsU, hoU⟩, rfl⟩;replace hl := hl.mono le25; replace hgA := hgA.mono le25; replace hgB := hgB.mono le25; replace hC := hC.mono le25; replace hsA := hsA.mono le25; replace hsB := hsB.mono le25;have nA := hoA.n;have nB := hoB.n;have nU := hoU.n;have hAh := hoA.hl oA;have hBh := hoB.hl oB;refine qg (qg (qg (qg (qa zc_42 ?_))));intro b20;refine qg (kB (l' := stC sU) si_42 ac ai (stC_one hsU) kR ab rfl kR.symm ?_);refine qg (qd (qo ae ?_));refine qg (qg (neqB (fun c97 => ?_) (fun c97 => ?_)))
      ·
       omega
      ·
       refine qg (kG rfl rfl ?_);refine kG rfl rfl ?_;refine neqB (fun c100 => ?_) (fun c100 => ?_)
       ·
        omega
       ·
        refine qg (qg (kG rfl rfl ?_));refine kG rfl rfl ?_;refine neqB (fun c104 => ?_) (fun c104 => ?_)
        ·
         omega
        ·
         refine qg (qg (kG rfl rfl ?_));refine kG rfl rfl ?_;refine neqB (fun c108 => ?_) (fun c108 => ?_)
         ·
          omega
         ·
          refine qg (qg (kG rfl rfl ?_));refine kG rfl rfl ?_;refine neqB (fun c112 => ?_) (fun c112 => ?_)
          ·
           omega
          ·
           refine qg (qg (kG rfl rfl ?_));refine kG rfl rfl ?_;refine neqB (fun c116 => ?_) (fun c116 => ?_)
           ·
            omega
           ·
            refine qg (qg (kG rfl rfl ?_));refine kG rfl rfl ?_;refine neqB (fun c120 => ?_) (fun c120 => ?_)
            ·
             omega
            ·
             refine qg (qd ?_);refine qD mixed [] [0, 1, 2, 3, 4, 5, 7, 8, 9, 10, 11, 12, 6, 13, 14, 15] (_ :: (_ :: (_ :: (_ :: [])))) ae (qq (kT (kT kH)) (qq (kT kH) (qq (kT (kT (kT (kT (kT kH))))) (qq (kT (kT (kT (kT (kT (kT kH)))))) sub_nil)))) ?_;refine qr rfl rfl rfl (qw fi_42_3 ?_);refine qr rfl rfl rfl (qO (v := sA.hv) sc_22 kH rfl ?_);refine qr rfl rfl rfl (qw fi_42_3 ?_);refine qr rfl rfl rfl (qO (v := sB.hv) sc_22 (kT kH) rfl ?_);refine qr rfl rfl rfl (qw fi_25_0 ?_);refine qr rfl rfl rfl (qO (v := gB.iv) sc_22 (kT (kT kH)) rfl ?_);refine qr rfl rfl rfl (qw fi_42_3 ?_);refine qr rfl rfl rfl (qO (v := sB.hv) sc_22 (kT kH) rfl ?_);refine qr rfl rfl rfl (qw fi_42_3 ?_);refine qr rfl rfl rfl (qO (v := sA.hv) sc_22 kH rfl ?_);refine qr rfl rfl rfl (qw fi_25_0 ?_);refine qr rfl rfl rfl (qO (v := gA.iv) sc_22 (kT (kT (kT kH))) rfl ?_);refine qj rfl rfl rfl ?_;refine qc (top_keptw hsA.heads hsB.heads hgB.ids af) ?_;rintro v128 h28 L_ le27 ⟨N128, rfl, hv128⟩;replace hgA := hgA.mono le27; replace hgB := hgB.mono le27; replace hC := hC.mono le27; replace hsA := hsA.mono le27; replace hsB := hsB.mono le27; replace hsU := hsU.mono le27;refine ⟨(qq (zq (kT (kT kH))) (qq (zq (kT kH)) (qq (zq (kT (kT (kT (kT (kT kH)))))) (qq (zq (kT (kT (kT (kT (kT (kT kH))))))) sub_nil)))), ?_⟩;refine qj rfl rfl rfl ?_;refine qc (top_keptw hsB.heads hsA.heads hgA.ids af) ?_;rintro v135 h30 L_ le29 ⟨N135, rfl, hv135⟩;replace hgA := hgA.mono le29; replace hgB := hgB.mono le29; replace hC := hC.mono le29; replace hsA := hsA.mono le29; replace hsB := hsB.mono le29; replace hsU := hsU.mono le29;refine ⟨(qq (zq (zq (kT (kT kH)))) (qq (zq (zq (kT kH))) (qq (zq (zq (kT (kT (kT (kT (kT kH))))))) (qq (zq (zq (kT (kT (kT (kT (kT (kT kH)))))))) sub_nil)))), ?_⟩;refine qj rfl rfl rfl ?_;refine DoV.freeze hv135 (by rw [List.length_map]; have := keptL_len sB.heads sA.heads ((fst1 gA.xs).map idOf); omega) kR ?_;intro h31 le32 hv135;replace hgA := hgA.mono le32; replace hgB := hgB.mono le32; replace hC := hC.mono le32; replace hsA := hsA.mono le32; replace hsB := hsB.mono le32; replace hsU := hsU.mono le32;refine qp sl_22 sl_22 z_74 hv128 hv135 kR (by rw [List.length_map, List.length_map]; have := keptL_len sB.heads sA.heads ((fst1 gA.xs).map idOf); have := keptL_len sA.heads sB.heads ((fst1 gB.xs).map idOf); omega) ?_;intro v136 N136 hv136;refine ⟨_, kR.symm, ?_⟩;refine ⟨(qq (zq (kT (kT kH))) (qq (zq (kT kH)) (qq (zq (kT (kT (kT (kT (kT kH)))))) (qq (zq (kT (kT (kT (kT (kT (kT kH))))))) sub_nil)))), ?_⟩;refine qr rfl rfl rfl (qe zf ?_);refine DoDraw.freeze hv136 (by rw [List.length_append, List.length_map, List.length_map]; have := keptL_len sB.heads sA.heads ((fst1 gA.xs).map idOf); have := keptL_len sA.heads sB.heads ((fst1 gB.xs).map idOf); omega) kR ?_;intro h33 le34 hv136;replace hgA := hgA.mono le34; replace hgB := hgB.mono le34; replace hC := hC.mono le34; replace hsA := hsA.mono le34; replace hsB := hsB.mono le34; replace hsU := hsU.mono le34;rw [← List.map_append] at hv136;have hkl : (keptL sA.heads sB.heads ((fst1 gB.xs).map idOf) ++ keptL sB.heads sA.heads ((fst1 gA.xs).map idOf)).length ≤ 200 := by rw [List.length_append]; have := keptL_len sB.heads sA.heads ((fst1 gA.xs).map idOf); have := keptL_len sA.heads sB.heads ((fst1 gB.xs).map idOf); omega
             refine qD mixed [] [0, 1, 2, 3, 4, 5, 6, 7, 8, 9, 10, 11, 12, 13, 14, 15, 16, 17, 18, 19, 20, 21, 22, 23, 24, 25, 26, 27, 28, 29, 30, 31, 32, 33, 34, 35, 36, 37, 38, 39, 40, 41] (_ :: (_ :: (_ :: (_ :: (_ :: (_ :: [])))))) ae (qq kH (qq (kT (kT kH)) (qq (kT kH) (qq (kT (kT (kT kH))) (qq (kT (kT (kT (kT (kT (kT kH)))))) (qq (kT (kT (kT (kT (kT kH))))) sub_nil)))))) ?_;refine qr rfl rfl rfl (qw fi_42_0 ?_);refine qr rfl rfl rfl (qO (v := .int .i64 (sU.n : Int)) sc_3 kH rfl ?_);refine qr rfl rfl rfl (qw fi_42_0 ?_);refine qr rfl rfl rfl (qO (v := .int .i64 (sA.n : Int)) sc_3 (kT kH) rfl ?_);refine qr rfl rfl rfl (qw fi_42_0 ?_);refine qr rfl rfl rfl (qO (v := .int .i64 (sB.n : Int)) sc_3 (kT (kT kH)) rfl ?_);refine qr rfl rfl rfl (qA ak ?_);refine qr rfl rfl rfl (qw fi_25_0 ?_);refine qr rfl rfl rfl (qO (v := ivc) sc_22 (kT (kT (kT kH))) rfl ?_);refine qr rfl rfl rfl (qm sl_22 hC ?_);refine qr rfl rfl rfl (sub_i64 ak ?_);refine qr rfl rfl rfl (eqlB (fun c148 => ?_) (fun c148 => ?_))
             ·
              refine qr rfl rfl rfl (DoDr.rdT rfl rfl rfl rfl rfl ?_);refine qw fi_42_3 ?_;refine DoDr.rdT rfl rfl rfl rfl rfl ?_;refine qO (v := sU.hv) sc_22 kH rfl ?_;refine DoDr.rdT rfl rfl rfl rfl rfl ?_;refine DoDr.efT rfl rfl rfl rfl rfl ?_;refine qc (ref_sorted hv136 hkl) ?_;rintro v153 h36 L_ le35 ⟨N153, rfl, S1, hv153, hS1⟩;replace hgA := hgA.mono le35; replace hgB := hgB.mono le35; replace hsA := hsA.mono le35; replace hsB := hsB.mono le35; replace hsU := hsU.mono le35;have hS1l := sortOf_len hS1;have hEh := heads_merge hG pA pB pU hW hoA.heads hoB.heads hoU.heads hS1;refine ⟨(qq (zq kH) (qq (zq (kT (kT kH))) (qq (zq (kT kH)) (qq (zq (kT (kT (kT kH)))) (qq (zq (kT (kT (kT (kT (kT (kT kH))))))) (qq (zq (kT (kT (kT (kT (kT kH)))))) sub_nil)))))), ?_⟩;refine DoDr.efT rfl rfl rfl rfl rfl ?_;refine DoCall.freeze pl_f12 hv153 al kR ?_;intro h37 le38 hv153;replace hgA := hgA.mono le38; replace hgB := hgB.mono le38; replace hsA := hsA.mono le38; replace hsB := hsB.mono le38; replace hsU := hsU.mono le38;refine qc (same_ids hsU.heads hv153) ?_;rintro v154 h40 L_ le39 ⟨rfl, rfl⟩;replace hgA := hgA.mono le39; replace hgB := hgB.mono le39; replace hsA := hsA.mono le39; replace hsB := hsB.mono le39; replace hsU := hsU.mono le39;rw [decide_eq_true hEh];refine ⟨(qq kH (qq (kT (kT kH)) (qq (kT kH) (qq (kT (kT (kT kH))) (qq (kT (kT (kT (kT (kT (kT kH)))))) (qq (kT (kT (kT (kT (kT kH))))) sub_nil)))))), ?_⟩;refine qr rfl rfl rfl (qr rfl rfl rfl (DoDr.rdT rfl rfl rfl rfl rfl ?_));refine qw fi_42_1 ?_;refine DoDr.rdT rfl rfl rfl rfl rfl ?_;refine qx (r := [sU.tv]) ag_37 kH ab rfl ?_;refine DoDr.rdT rfl rfl rfl rfl rfl ?_;refine qw fi_42_1 ?_;refine DoDr.rdT rfl rfl rfl rfl rfl ?_;refine qx (r := [sA.tv]) ag_37 (kT kH) ab rfl ?_;refine DoDr.rdT rfl rfl rfl rfl rfl ?_;refine qw fi_42_1 ?_;refine DoDr.rdT rfl rfl rfl rfl rfl ?_;refine qx (r := [sB.tv]) ag_37 (kT (kT kH)) ab rfl ?_;refine DoDr.rdT rfl rfl rfl rfl rfl ?_;refine qx (r := grC gA) ag_25 (kT (kT (kT (kT kH)))) ab rfl ?_;refine DoDr.rdT rfl rfl rfl rfl rfl ?_;refine qx (r := grC gB) ag_25 (kT (kT (kT (kT (kT kH))))) ab rfl ?_;refine DoDr.efT rfl rfl rfl rfl rfl ?_;refine qc (top_tagsw hsA.tags hsB.tags hgA.ids hgB.ids hoA.t32 hoB.t32 hoA.tl hoB.tl (Sl.one hgA.ops.sl) (Sl.one hgB.ops.sl)) ?_;rintro v165 h42 L_ le41 ⟨⟨zT, T, rfl, hzT, hTp, hTs⟩, rfl⟩;replace hsA := hsA.mono le41; replace hsB := hsB.mono le41; replace hsU := hsU.mono le41;have hET := tags_merge hG pA pB pU hW hoA.tags hoB.tags hoU.tags hTp hTs;rw [← hET] at hzT;refine ⟨(qq kH (qq (kT (kT kH)) (qq (kT kH) (qq (kT (kT (kT kH))) (qq (kT (kT (kT (kT (kT (kT kH)))))) (qq (kT (kT (kT (kT (kT kH))))) sub_nil)))))), ?_⟩;refine DoDr.efT rfl rfl rfl rfl rfl ?_;refine qc (ref21_same hsU.tags hzT hoU.t32) ?_;rintro v166 h44 L_ le43 ⟨rfl, rfl⟩;replace hsA := hsA.mono le43; replace hsB := hsB.mono le43; replace hsU := hsU.mono le43;refine ⟨(qq kH (qq (kT (kT kH)) (qq (kT kH) (qq (kT (kT (kT kH))) (qq (kT (kT (kT (kT (kT (kT kH)))))) (qq (kT (kT (kT (kT (kT kH))))) sub_nil)))))), ?_⟩;refine qr rfl rfl rfl (qr rfl rfl rfl (DoDr.rdT rfl rfl rfl rfl rfl ?_));refine qw fi_42_2 ?_;refine DoDr.rdT rfl rfl rfl rfl rfl ?_;refine qx (r := [sU.rv]) ag_40 kH ab rfl ?_;refine DoDr.rdT rfl rfl rfl rfl rfl ?_;refine qw fi_42_2 ?_;refine DoDr.rdT rfl rfl rfl rfl rfl ?_;refine qx (r := [sA.rv]) ag_40 (kT kH) ab rfl ?_;refine DoDr.rdT rfl rfl rfl rfl rfl ?_;refine qw fi_42_2 ?_;refine DoDr.rdT rfl rfl rfl rfl rfl ?_;refine qx (r := [sB.rv]) ag_40 (kT (kT kH)) ab rfl ?_;refine DoDr.efT rfl rfl rfl rfl rfl ?_;refine qc (top_regsw hsA.regs hsB.regs (hoA.rok oA) (hoB.rok oB) hoB.regs.ris hoA.rl hoB.rl) ?_;rintro v175 h46 L_ le45 ⟨⟨zR, RR, rfl, hzR, hRp, hRs⟩, rfl⟩;replace hsU := hsU.mono le45;have hER := regs_merge hG pA pB hW hoA.regs hoB.regs hoU.regs hRp hRs;rw [← hER] at hzR;refine ⟨(qq kH (qq (kT (kT kH)) (qq (kT kH) (qq (kT (kT (kT kH))) (qq (kT (kT (kT (kT (kT (kT kH)))))) (qq (kT (kT (kT (kT (kT kH))))) sub_nil)))))), ?_⟩;refine DoDr.efT rfl rfl rfl rfl rfl ?_;refine qc (ref22_same hsU.regs hzR (fun t ht => (hoU.rok oU t ht).1)) ?_;rintro v176 h48 L_ le47 ⟨rfl, rfl⟩;refine ⟨(qq kH (qq (kT (kT kH)) (qq (kT kH) (qq (kT (kT (kT kH))) (qq (kT (kT (kT (kT (kT (kT kH)))))) (qq (kT (kT (kT (kT (kT kH))))) sub_nil)))))), ?_⟩;refine qr rfl rfl rfl (qr rfl rfl rfl (qe zf ?_));refine DoRet.r1 (.tmp rfl) (qh (zu (zu (zu (zu (zu (zu (zu kS)))))))) zl ?_;exact ⟨rfl, rfl⟩
             ·
              exact absurd af c148
end Go.Brd
