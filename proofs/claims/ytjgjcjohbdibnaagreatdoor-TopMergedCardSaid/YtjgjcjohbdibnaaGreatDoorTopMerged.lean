/- braidtop.TopMerged answers true on every input, and each argument reads afterwards as it read before, where the package variable braid/digest.constants holds what the program text lays (the card ties it; the tie covers the pruned copy of the project alone). Below: the arguments are opened as data, the row is proved out of the walk top_merged, the card is closed. -/
import Derived.Test.YtjgjcjohbdibnaaGreatDoorK6
import Derived.ProofKit
import Derived.SizedLaws
import Derived.OpenShut
import Derived.Deep.Slices
import Derived.Test.YtjgjcjohbdibnaaGreatDoorTie
import Derived.Test.YtjgjcjohbdibnaaGreatDoorCards
import Derived.LaidMore
import Derived.Stop.Joined
import Derived.SevenTiedAt
set_option linter.all false
namespace Go.Brd
open Go Go.Brd Go.Proofs Go.RowKit
set_option linter.unusedVariables false
def ghOf (W : World) : GH := fun b => W.heap[b]?
theorem St.start (W : World) : St W (ghOf W) [] W := ⟨rfl, rfl, rfl, fun _ _ e => e, by simp, by simp, by simp, Nat.le_refl _⟩
section
variable {H : Type} {enc : TypeId × Value → H} {W : World} {sp : Nat → Bool}
def Opens {H : Type} (enc : TypeId × Value → H) (W : World) (sp : Nat → Bool) (t : TypeId) (Q : List Value → Prop) : Prop :=
 ∀ n cs x, DataW.trod enc Tryz.prog W 0 sp true n t cs = some x → (∀ m ∈ x.1.weights Tryz.prog t, m ≤ reachBytes) → Q cs
theorem weightsAll_mem {P : Program} {e : TypeId} {m : Nat} : ∀ {l : List (DataW H)} {d : DataW H}, d ∈ l → m ∈ d.weights P e → m ∈ DataW.weightsAll P e l
 | d0 :: r, d, hd, hm => by
  simp only [DataW.weightsAll, List.mem_append];rcases List.mem_cons.1 hd with rfl | h
  · exact Or.inl hm
  · exact Or.inr (weightsAll_mem h hm)
theorem cell?_heap {W : World} {a : Addr} {v : Value} (h : W.cell? a = some v) : a.spot = none ∧ ∃ cs E fr, W.heap[a.block]? = some (.cells cs E fr) ∧ cs[a.off]? = some v := by
 unfold World.cell? at h;split at h
 · rename_i c E fr hb
   split at h
   · cases h
   · rename_i hs
     exact ⟨by simpa using hs, c, E, fr, hb, h⟩
 · cases h
theorem Addr.add_eq (b off n : Nat) : (Addr.add ⟨b, off, none⟩ n) = ⟨b, off + n, none⟩ := by
 unfold Addr.add; split
 · subst_vars; rfl
 · rfl
theorem cell?_at {W : World} {b off : Nat} {cs : Array Value} {E : TypeId} {fr} (hb : W.heap[b]? = some (.cells cs E fr)) : W.cell? ⟨b, off, none⟩ = cs[off]? := by
 unfold World.cell?; rw [hb]; simp
theorem opens_slice {t e sz : Nat} {Q : List Value → Prop} (ht : Tryz.prog.underlying t = some (.slice e)) (hc : Tryz.prog.cellsOf e = sz) (hsz : 0 < sz) (hb : 0 < Tryz.prog.bytesOf e)
 (he : Opens enc W sp e Q) (h1 : ∀ cs, Q cs → cs.all oneCell = true) : Opens enc W sp t (fun cs => ∃ v ls, cs = [v] ∧ Sl (ghOf W) v sz ls ∧ ∀ l ∈ ls, Q l) := by
 intro n cs x h hw;rcases Deep.open_slice ht h with ⟨rfl, rfl⟩ | ⟨a, len, cap, m, k, D, Pl, rfl, _, hlc, hcm, hm, rfl, hel⟩
 · exact ⟨_, [], rfl, ⟨by simp, by simp, by decide, none, 0, rfl, Nat.le_refl _, by decide, Or.inl rfl⟩, by simp⟩
 rw [hc] at hel;have hlm : len ≤ m := by rw [hm]; split <;> omega
 have hw1 : len < 2 ^ 62 := by
  have h2 := hw ((((List.range len).map D).length + ((List.range (m - len)).map fun j => D (len + j)).length) * Tryz.prog.bytesOf e) (by simp only [DataW.weights, ht]; exact List.mem_cons_self ..);simp only [List.length_map, List.length_range] at h2;have h3 := reachBytes_lt;have h4 : len ≤ (len + (m - len)) * Tryz.prog.bytesOf e := Nat.le_trans (Nat.le_add_right _ _) (Nat.le_mul_of_pos_right _ hb);omega
 let g : Nat → List Value := fun i => (W.cells? 0 (a.add (i * sz)) sz).getD []
 have hg : ∀ i, i < len → W.cells? 0 (a.add (i * sz)) sz = some (g i) ∧ (g i).length = sz ∧ Q (g i) := by
  intro i hi;obtain ⟨cs', e1, e2⟩ := hel i af;have e3 : g i = cs' := by show (W.cells? 0 (a.add (i * sz)) sz).getD [] = cs'; rw [e1]; rfl
  rw [e3];refine ⟨e1, (World.cells?_some e1).2.1, he k cs' _ e2 fun m' hm' => hw m' ?_⟩;simp only [DataW.weights, ht];exact kT (List.mem_append_left _ (weightsAll_mem (List.mem_map.2 ⟨i, List.mem_range.2 hi, rfl⟩) hm'))
 have hls : ∀ l ∈ (List.range len).map g, l.length = sz ∧ Q l := fun l hl => by
  obtain ⟨i, hi, rfl⟩ := List.mem_map.1 hl;exact (hg i (List.mem_range.1 hi)).2
 refine ⟨_, (List.range len).map g, rfl, ⟨fun l hl => (hls l hl).1, fun l hl => h1 l (hls l hl).2, by simpa using hw1, some a, cap, by simp, by simpa using hlc, ?_, ?_⟩, fun l hl => (hls l hl).2⟩
 · have : maxLen < 2 ^ 63 := by decide
   omega
 · by_cases h0 : len = 0
   · left; simp [h0]
   right;have e0 := (World.cells?_some (hg 0 af).1).2.2 0 hsz;rw [Nat.zero_mul] at e0;obtain ⟨b, off, spot⟩ := a;have e0' : W.cell? ⟨b, off, spot⟩ = (g 0)[0]? := e0;rw [List.getElem?_eq_getElem (by rw [(hg 0 af).2.1]; exact hsz)] at e0';obtain ⟨hs, cs, E, fr, hb, _⟩ := cell?_heap e0';have hs : spot = none := hs;subst hs;refine ⟨b, off, _, rfl, hb, cs, E, fr, rfl, fun j hj => ?_⟩
   have hfl : ((List.range len).map g).flatten.length = len * sz := by
    rw [flatten_length (fun l hl => (hls l hl).1)]; simp
   rw [hfl] at hj;have hq : j / sz < len := Nat.div_lt_of_lt_mul (by rw [Nat.mul_comm]; exact hj);have hr : j % sz < sz := Nat.mod_lt _ hsz;have hk : ((List.range len).map g)[j / sz]? = some (g (j / sz)) := by simp [hq]
   have e1 := (World.cells?_some (hg _ hq).1).2.2 (j % sz) hr;rw [Addr.add_eq, Addr.add_eq, cell?_at hb] at e1;have hjs : j / sz * sz + j % sz = j := Nat.div_add_mod' j sz;rw [show off + j / sz * sz + j % sz = off + j by omega] at e1;rw [e1];obtain ⟨r, hr2⟩ := flatten_at (fun l hl => (hls l hl).1) hk
   have e2 : ((List.range len).map g).flatten[j]? = (g (j / sz))[j % sz]? := by
    have e3 : (((List.range len).map g).flatten.drop (j / sz * sz))[j % sz]? = ((List.range len).map g).flatten[j]? := by rw [List.getElem?_drop, hjs]
    rw [← e3, hr2, List.getElem?_append_left (by rw [(hg _ hq).2.1]; exact hr)]
   rw [← e2, List.getElem?_eq_getElem]
theorem choose_rows {α : Type} {f : α → List Value} {Q : α → Prop} : ∀ {ls : List (List Value)}, (∀ l ∈ ls, ∃ a, l = f a ∧ Q a) → ∃ rs : List α, ls = rs.map f ∧ ∀ a ∈ rs, Q a
 | [], _ => ⟨[], rfl, by simp⟩
 | l :: r, h => by
  obtain ⟨a, rfl, ha⟩ := h l am;obtain ⟨r', rfl, hr⟩ := choose_rows (ls := r) (f := f) (Q := Q) fun x hx => h x (by simp [hx])
  exact ⟨a :: r', rfl, fun x hx => by
   rcases List.mem_cons.1 hx with rfl | hx
   · exact ha
   · exact hr x hx⟩
theorem cellsOf5 : Tryz.prog.cellsOf 5 = 1 := by kernel_rfl
theorem cellsOf74 : Tryz.prog.cellsOf 74 = 32 := by kernel_rfl
theorem cellsOf61 : Tryz.prog.cellsOf 61 = 11 := by kernel_rfl
theorem opens_id : Opens enc W sp 74 (fun cs => ∃ x : ID, cs = idC x) := by
 intro n cs x h _;obtain ⟨xs, m, _, _, hl, hn, hel⟩ := DataW.trod_array Tryz.underlying74 h;rw [cellsOf74] at hl
 have h1 : ∀ l ∈ cs.map (fun v => [v]), ∃ b : UInt8, l = [u8V b] ∧ True := by
  intro l hl';obtain ⟨v, hv, rfl⟩ := List.mem_map.1 hl';obtain ⟨i, hi, rfl⟩ := List.getElem_of_mem hv;have h2 := hel i af;rw [cellsOf5, Nat.mul_one, List.getElem?_eq_getElem af, List.drop_eq_getElem_cons hi] at h2;obtain ⟨k, e1, _, wf⟩ := DataW.trod_int Tryz.underlying5 h2;simp only [List.take_succ_cons, List.take_zero, List.cons.injEq, and_true] at e1;rw [e1];have : 0 ≤ k ∧ k ≤ 255 := by simpa [Lit.wf, IntKind.min, IntKind.max, IntKind.signed, IntKind.bits] using wf
  refine ⟨UInt8.ofNat k.toNat, ?_, trivial⟩;simp only [u8V, UInt8.toNat_ofNat'];congr 2; omega
 obtain ⟨bs, e, _⟩ := choose_rows (f := fun b => [u8V b]) h1;refine ⟨bs, ?_⟩;have e2 : (cs.map fun v => [v]).flatten = (bs.map fun b => [u8V b]).flatten := by rw [e]
 rw [flat1] at e2;rw [e2];unfold idC;rw [← flat1 (bs.map u8V), List.map_map]; rfl
theorem opens_ids : Opens enc W sp 22 (fun cs => ∃ v ids, cs = [v] ∧ RIds (ghOf W) v ids) := by
 intro n cs x h hw;obtain ⟨v, ls, rfl, hs, hq⟩ := opens_slice Tryz.underlying22 cellsOf74 ah ae opens_id (fun cs ⟨x, e⟩ => by rw [e]; exact idC_one x) n cs x h hw;obtain ⟨ids, rfl, _⟩ := choose_rows (f := idC) (Q := fun _ => True) fun l hl => let ⟨x, e⟩ := hq l hl; ⟨x, e, trivial⟩
 exact ⟨v, ids, rfl, hs⟩
theorem int_cell {k : IntKind} {t n : Nat} {cs : List Value} {x} (ht : Tryz.prog.underlying t = some (.int k)) (h : DataW.trod enc Tryz.prog W 0 sp true n t cs = some x) : ∃ z, cs = [.int k z] ∧ k.min ≤ z ∧ z ≤ k.max := by
 obtain ⟨z, e, _, wf⟩ := DataW.trod_int ht h;exact ⟨z, e, by simpa [Lit.wf] using wf⟩
theorem fields_of {fs : Array Field} {t n : Nat} {cs : List Value} {x} (ht : Tryz.prog.underlying t = some (.struct fs)) (h : DataW.trod enc Tryz.prog W 0 sp true n t cs = some x) (hw : ∀ m ∈ x.1.weights Tryz.prog t, m ≤ reachBytes) :
 cs.length = Tryz.prog.cellsOf t ∧ ∀ (i ft off sz : Nat), (fs[i]?).map (fun f => (f.type, f.offset)) = some (ft, off) → Tryz.prog.cellsOf ft = sz → ∃ n' x', DataW.trod enc Tryz.prog W 0 sp true n' ft ((cs.drop off).take sz) = some x' ∧ ∀ m ∈ x'.1.weights Tryz.prog ft, m ≤ reachBytes := by
 obtain ⟨xs, m, _, rfl, hl, hn, hel⟩ := DataW.trod_struct ht h;refine ⟨hl, fun i ft off sz hf hsz => ?_⟩;obtain ⟨f, hf2, e⟩ := Option.map_eq_some_iff.1 hf;cases e;have hi : i < fs.size := (Array.getElem?_eq_some_iff.1 hf2).1;have h2 := hel i f hf2;rw [List.getElem?_eq_getElem af, hsz] at h2;refine ⟨m, _, h2, fun k hk => hw k ?_⟩;simp only [DataW.weights, ht];refine DataW.weights_mem_each (j := i) (t := f.type) (d := (xs[i]'af).1) ?_ ?_ k hk
 · rw [List.getElem?_map]; simp [hf2]
 · simp [List.getElem?_eq_getElem (show i < xs.length by omega)]
theorem cells5 : Tryz.prog.cellsOf 5 = 1 := by kernel_rfl
theorem cells2 : Tryz.prog.cellsOf 2 = 1 := by kernel_rfl
theorem cells52 : Tryz.prog.cellsOf 52 = 1 := by kernel_rfl
theorem cells53 : Tryz.prog.cellsOf 53 = 1 := by kernel_rfl
theorem cells9 : Tryz.prog.cellsOf 9 = 1 := by kernel_rfl
theorem cells22 : Tryz.prog.cellsOf 22 = 1 := by kernel_rfl
theorem cells23 : Tryz.prog.cellsOf 23 = 1 := by kernel_rfl
theorem cells25 : Tryz.prog.cellsOf 25 = 2 := by kernel_rfl
theorem cells55 : Tryz.prog.cellsOf 55 = 4 := by kernel_rfl
theorem cells57 : Tryz.prog.cellsOf 57 = 6 := by kernel_rfl
theorem cells59 : Tryz.prog.cellsOf 59 = 2 := by kernel_rfl
theorem one_of {v : Value} {P : Value → Prop} {l : List Value} (h : l = [v]) (hp : P v) : ∃ u, l = [u] ∧ P u := ⟨v, h, hp⟩
theorem opens_u8 : Opens enc W sp 5 (fun cs => ∃ k : Nat, cs = [.int .u8 k] ∧ k < 256) := fun n cs x h _ => by
 obtain ⟨z, rfl, h1, h2⟩ := int_cell Tryz.underlying5 h;have : 0 ≤ z ∧ z ≤ 255 := ⟨h1, h2⟩;exact ⟨z.toNat, by rw [Int.toNat_of_nonneg this.1], by omega⟩
theorem opens_u32 : Opens enc W sp 53 (fun cs => ∃ k : Nat, cs = [.int .u32 k] ∧ k < 4294967296) := fun n cs x h _ => by
 obtain ⟨z, rfl, h1, h2⟩ := int_cell Tryz.underlying53 h;have : 0 ≤ z ∧ z ≤ 4294967295 := ⟨h1, h2⟩;exact ⟨z.toNat, by rw [Int.toNat_of_nonneg this.1], by omega⟩
theorem opens_u64 : Opens enc W sp 52 (fun cs => ∃ k : Nat, cs = [.int .u64 k] ∧ k < 18446744073709551616) := fun n cs x h _ => by
 obtain ⟨z, rfl, h1, h2⟩ := int_cell Tryz.underlying52 h;have : 0 ≤ z ∧ z ≤ 18446744073709551615 := ⟨h1, h2⟩;exact ⟨z.toNat, by rw [Int.toNat_of_nonneg this.1], by omega⟩
theorem opens_i64 : Opens enc W sp 2 (fun cs => ∃ k : Int, cs = [.int .i64 k] ∧ -9223372036854775808 ≤ k ∧ k ≤ 9223372036854775807) := fun n cs x h _ => by
 obtain ⟨z, rfl, h1, h2⟩ := int_cell Tryz.underlying2 h;exact ⟨z, rfl, h1, h2⟩
theorem opens_string : Opens enc W sp 9 (fun cs => ∃ s : ByteArray, cs = [.string s] ∧ s.size ≤ 9223372036854775807) := fun n cs x h _ => by
 obtain ⟨s, rfl, _, h2⟩ := DataW.trod_string Tryz.underlying9 h;exact ⟨s, rfl, h2⟩
theorem opens_val : Opens enc W sp 55 (fun cs => ∃ v : Val, cs = valC v ∧ ValWF v) := by
 intro n cs x h hw;obtain ⟨hl, hf⟩ := fields_of Tryz.underlying55 h hw;rw [cells55] at hl;obtain ⟨_, _, h0, w0⟩ := hf 0 5 0 1 rfl cells5;obtain ⟨_, _, h1, w1⟩ := hf 1 2 1 1 rfl cells2;obtain ⟨_, _, h2, w2⟩ := hf 2 52 2 1 rfl cells52;obtain ⟨_, _, h3, w3⟩ := hf 3 9 3 1 rfl cells9;obtain ⟨z0, e0, r0⟩ := opens_u8 _ _ _ h0 w0;obtain ⟨z1, e1, r1⟩ := opens_i64 _ _ _ h1 w1;obtain ⟨z2, e2, r2⟩ := opens_u64 _ _ _ h2 w2;obtain ⟨z3, e3, r3⟩ := opens_string _ _ _ h3 w3
 match cs, hl with
 | [a, b, c, d], _ =>
  cases e0; cases e1; cases e2; cases e3;exact ⟨⟨z0, z1, z2, z3⟩, rfl, ⟨r0, r1, r2, r3⟩⟩
theorem opens_act : Opens enc W sp 57 (fun cs => ∃ a : Act, cs = actC a ∧ ActWF a) := by
 intro n cs x h hw;obtain ⟨hl, hf⟩ := fields_of Tryz.underlying57 h hw;rw [cells57] at hl;obtain ⟨_, _, h0, w0⟩ := hf 0 5 0 1 rfl cells5;obtain ⟨_, _, h1, w1⟩ := hf 1 9 1 1 rfl cells9;obtain ⟨_, _, h2, w2⟩ := hf 2 55 2 4 rfl cells55;obtain ⟨z0, e0, r0⟩ := opens_u8 _ _ _ h0 w0;obtain ⟨z1, e1, r1⟩ := opens_string _ _ _ h1 w1;obtain ⟨z2, e2, r2⟩ := opens_val _ _ _ h2 w2
 match cs, hl with
 | [a, b, c, d, e, f], _ =>
  cases e0; cases e1;have e2 : [c, d, e, f] = valC z2 := e2;exact ⟨⟨z0, z1, z2⟩, by rw [e2]; rfl, ⟨r0, r1, r2⟩⟩
theorem opens_op : Opens enc W sp 61 (fun cs => ∃ y : Op × Value, cs = opC y ∧ ROp (ghOf W) y) := by
 intro n cs x h hw;obtain ⟨hl, hf⟩ := fields_of Tryz.underlying61 h hw;rw [cellsOf61] at hl;obtain ⟨_, _, h0, w0⟩ := hf 0 53 0 1 rfl cells53;obtain ⟨_, _, h1, w1⟩ := hf 1 22 1 1 rfl cells22;obtain ⟨_, _, h2, w2⟩ := hf 2 52 2 1 rfl cells52;obtain ⟨_, _, h3, w3⟩ := hf 3 57 3 6 rfl cells57;obtain ⟨_, _, h4, w4⟩ := hf 4 59 9 2 rfl cells59;obtain ⟨z0, e0, r0⟩ := opens_u32 _ _ _ h0 w0;obtain ⟨pv, pl, e1, r1⟩ := opens_ids _ _ _ h1 w1;obtain ⟨z2, e2, r2⟩ := opens_u64 _ _ _ h2 w2;obtain ⟨z3, e3, r3⟩ := opens_act _ _ _ h3 w3;obtain ⟨hl4, hf4⟩ := fields_of Tryz.underlying59 h4 w4;obtain ⟨_, _, h5, w5⟩ := hf4 0 53 0 1 rfl cells53;obtain ⟨_, _, h6, w6⟩ := hf4 1 53 1 1 rfl cells53;obtain ⟨z5, e5, r5⟩ := opens_u32 _ _ _ h5 w5;obtain ⟨z6, e6, r6⟩ := opens_u32 _ _ _ h6 w6
 match cs, hl with
 | [a, b, c, d, e, f, g, i, j, k, l], _ =>
  cases e0; cases e1; cases e2; cases e5; cases e6;have e3 : [d, e, f, g, i, j] = actC z3 := e3;refine ⟨(⟨z0, pl, z2, z3, z5, z6⟩, pv), ?_, ⟨r1, ⟨r0, r2, r3, r5, r6⟩⟩⟩;simp only [actC, valC, List.cons.injEq, and_true] at e3;obtain ⟨rfl, rfl, rfl, rfl, rfl, rfl⟩ := e3;rfl
theorem opens_ops : Opens enc W sp 23 (fun cs => ∃ v xs, cs = [v] ∧ ROps (ghOf W) v xs) := by
 intro n cs x h hw;obtain ⟨v, ls, rfl, hs, hq⟩ := opens_slice Tryz.underlying23 cellsOf61 ah ae opens_op (fun cs ⟨y, e, r⟩ => by rw [e]; exact opC_one y (Sl.one r.preds)) n cs x h hw;obtain ⟨xs, rfl, hx⟩ := choose_rows (f := opC) (Q := ROp (ghOf W)) hq;exact ⟨v, xs, rfl, hs, hx⟩
theorem opens_graph : Opens enc W sp 25 (fun cs => ∃ iv ov ids xs, cs = [iv, ov] ∧ RIds (ghOf W) iv ids ∧ ROps (ghOf W) ov xs) := by
 intro n cs x h hw;obtain ⟨hl, hf⟩ := fields_of Tryz.underlying25 h hw;rw [cells25] at hl;obtain ⟨_, _, h0, w0⟩ := hf 0 22 0 1 rfl cells22;obtain ⟨_, _, h1, w1⟩ := hf 1 23 1 1 rfl cells23;obtain ⟨v, ids, e0, r0⟩ := opens_ids _ _ _ h0 w0;obtain ⟨u, xs, e1, r1⟩ := opens_ops _ _ _ h1 w1
 match cs, hl with
 | [a, b], _ =>
  cases e0; cases e1;exact ⟨_, _, _, _, rfl, r0, r1⟩
end
end Go.Brd
namespace Go.Brd
open Go Go.Brd Go.Proofs Go.RowKit
set_option linter.unusedVariables false
theorem g_const : Tryz.prog.globalNamed "braid/digest.constants" = some 1 := by kernel_rfl
theorem gt_const : (Tryz.prog.globals[1]?).map (·.type) = some 281 := by kernel_rfl
theorem laid_shaK : YtjgjcjohbdibnaaGreatDoor.Rows.laid_braid_digest_constants = (DataW.agg (shaK.map fun n => (.lit (.int .u32 (n : Nat)) : DataW Unit))) := by kernel_rfl
theorem cells281 : Tryz.prog.cellsOf 281 = 64 := by kernel_rfl
theorem laid_plain : ([("braid/digest.constants", YtjgjcjohbdibnaaGreatDoor.Rows.laid_braid_digest_constants)].all fun x => (x.2 : DataW Unit).handleName?.isNone) = true := by kernel_rfl
theorem gk_of_laid {W : World} (h : laidMetH Tryz.prog [("braid/digest.constants", YtjgjcjohbdibnaaGreatDoor.Rows.laid_braid_digest_constants)] W) : GK (ghOf W) := by
 rw [MakeChecks.laidMetH_plain _ _ _ laid_plain] at h;obtain ⟨ps, ⟨g, t, cs, fuel, p, q, hg, ht, hv, hd, _, _⟩, _, _⟩ := h;obtain rfl := Option.some.inj (g_const.symm.trans hg);obtain rfl := Option.some.inj (gt_const.symm.trans ht);obtain ⟨xs, m, _, hx, hl, hn, hel⟩ := DataW.trod_array Tryz.underlying281 hd;rw [cells281] at hl;rw [cells53] at hel;rw [laid_shaK] at hx
 have hx1 : (shaK.map fun n => (.lit (.int .u32 (n : Nat)) : DataW Unit)) = xs.map (·.1) := by
  have := congrArg Prod.fst hx
  simpa using this
 have hcs : cs.toList = shaK.map u32v := by
  refine List.ext_getElem? fun i => ?_
  by_cases hi : i < 64
  · have h2 := hel i hi
    rw [Nat.mul_one, List.getElem?_eq_getElem af, List.drop_eq_getElem_cons (by rw [hl]; exact hi)] at h2;obtain ⟨k, e1, e2, _⟩ := DataW.trod_int Tryz.underlying53 h2;simp only [List.take_succ_cons, List.take_zero, List.cons.injEq, and_true] at e1;have e3 := congrArg (fun l => l[i]?) hx1;simp only [List.getElem?_map, List.getElem?_eq_getElem (show i < xs.length by omega), e2, Option.map_some] at e3;obtain ⟨z, e4, e5⟩ := Option.map_eq_some_iff.1 e3;have e6 : k = (z : Nat) := by simpa using e5.symm
    rw [List.getElem?_eq_getElem (by rw [hl]; exact hi), e1, List.getElem?_map, e4, e6]; rfl
  · have h64 : shaK.length = 64 := by decide
    rw [List.getElem?_eq_none af, List.getElem?_eq_none al]
 obtain ⟨c, E, fr, hb, hc⟩ : ∃ c E fr, W.heap[1]? = some (.cells c E fr) ∧ c = cs := by
  simp only [World.var?, hg, Option.bind_some] at hv;split at hv
  · rename_i c t fr hb
    exact ⟨c, t, fr, hb, by simpa using hv⟩
  · cases hv
 subst hc;refine ⟨1, 0, _, rfl, hb, c, E, fr, rfl, fun j hj => ?_⟩;rw [Nat.zero_add, ← Array.getElem?_toList, hcs];exact List.getElem?_eq_getElem hj
theorem below_of {W W' : World} {h' : GH} {L' : Own} (hle : GH.le (ghOf W) h') (s : St W h' L' W') : Below W.heap.size W W' := by
 have hk : ∀ k, k < W.heap.size → W'.heap[k]? = W.heap[k]? := fun k hk => by
  have e : W.heap[k]? = some W.heap[k] := Array.getElem?_eq_getElem hk;rw [e]; exact s.gh k _ (hle k _ e)
 refine ⟨s.os, s.tape, s.output, ?_, hk⟩;by_cases h0 : W.heap.size = 0
 · omega
 · have e : W.heap[W.heap.size - 1]? = some W.heap[W.heap.size - 1] := Array.getElem?_eq_getElem af
   have h2 := (Array.getElem?_eq_some_iff.1 ((hk (W.heap.size - 1) af).trans e)).1;omega
theorem cells_agg {P : Program} {w : World} {r : _root_.Go.Reach} {b t : Nat} {v : Value} {fs : Array Field} {l : List Value} (ht : P.underlying t = some (.struct fs)) (h : Value.okWide P w r b t v) (e : v.cells.toList = l) : v = .agg l.toArray := by
 unfold Value.okWide at h;rw [ht] at h;obtain ⟨cs, rfl, _⟩ := h;subst e; rfl
theorem cells_slice {P : Program} {w : World} {r : _root_.Go.Reach} {b t e : Nat} {v u : Value} (ht : P.underlying t = some (.slice e)) (h : Value.okWide P w r b t v) (eq : v.cells.toList = [u]) : v = u := by
 cases v <;> first | (simpa [Value.cells] using eq) | skip
 exfalso;unfold Value.okWide Cell.okWide Cell.ok at h;rw [ht] at h;simp at h
theorem own_knob : ownKnob Tryz.prog.godebug = none := by kernel_rfl
theorem laid_out : laidOutB Tryz.prog = true := by kernel_rfl
theorem rec25 : Tryz.prog.readableRec 25 = true := by kernel_rfl
theorem rec22 : Tryz.prog.readableRec 22 = true := by kernel_rfl
theorem sizeT : Tryz.prog.types.size = 302 := by kernel_rfl
end Go.Brd
namespace Go.Proofs.YtjgjcjohbdibnaaGreatDoor
open Go Go.Brd Go.ChangeShapes Go.WideShapes Go.ChangeAt Go.RowKit
theorem door_met (os : Os) (args : Array Value) : laidMetH Tryz.prog Rows.topMergedRow.laid ((World.doorLaid Tryz.prog 400 os).forCall (fun _ _ => 0) ⟨#[], args, []⟩).memory := by
 show laidMetH Tryz.prog [("braid/digest.constants", Rows.laid_braid_digest_constants)] _;rw [MakeChecks.laidMetH_plain _ _ _ laid_plain];exact laidMet_of_run' 8 (by kernel_rfl) (by kernel_rfl)
set_option maxRecDepth 100000 in
theorem lifted (os : Os) (started : os.Started) (H : Type) (enc : TypeId × Value → H) :
 ReturnsInHanded {} Tryz.checked os 3 .any (fun w args => (Rows.topMergedSpec.pre enc Tryz.prog Tryz.f3 [] false w args ∧ laidMetH Tryz.prog Rows.topMergedRow.laid w) ∧ sizedMet enc Tryz.prog Tryz.f3 (OpenSpec.ofChange Rows.topMergedSpec) false w args)
  (Rows.topMergedSpec.post enc Tryz.prog Tryz.f3 false true false false) := by
 refine returnsInHanded_of_change_and (C := Tryz.checked) (X := fun w _ => laidMetH Tryz.prog Rows.topMergedRow.laid w) (fun _ _ _ hh h => h.of_heap hh) own_knob started (by kernel_rfl) Tryz.func3
  (ChangeSpec.witness_shaped (enc := enc) (C := Tryz.checked) (os := os) (X := fun w _ => laidMetH Tryz.prog Rows.topMergedRow.laid w) false (World.doorLaid Tryz.prog 400 os) #[.agg #[.slice none 0 0, .slice none 0 0], .slice none 0 0, .slice none 0 0] 8 rfl (World.shaped_of_RefB (by kernel_rfl) (by kernel_rfl)) (by kernel_rfl) (by kernel_rfl) (by kernel_rfl) (door_met os _)) ?_
 intro W base args ds gs before hval0 hW _ hsz hL _;have hval : ∀ (j : Nat) t v, Tryz.f3.params[j]? = some t → args[j]? = some v → Value.okWide Tryz.prog W .any base t v := hval0;have hsz' : (DataW.weightsEach Tryz.prog (Tryz.f3.params.toList ++ Rows.topMergedSpec.plain.varTypes Tryz.prog) (ds ++ gs)).all (· ≤ reachBytes) = true := hsz;clear hsz;have hW' := hW;obtain ⟨p, q, hA0, hV, rfl, hfz, hnd⟩ := hW;have hA : DataW.TrodAll enc Tryz.prog W 0 (fun _ => true) true Tryz.f3.params.toList args.toList ds p := hA0;rw [Tryz.params3] at hA hval hsz';obtain ⟨v0, v1, v2, d0, d1, d2, p0, p1, p2, rfl, rfl, rfl, h0, h1, h2⟩ := trodAll_three hA;obtain ⟨rfl, rfl⟩ := trodVars_none hV;have hgk := gk_of_laid hL
 have hw : ∀ (j : Nat) (t : TypeId) (d : DataW H), ([25, 22, 22] : List TypeId)[j]? = some t → [d0, d1, d2][j]? = some d → ∀ m ∈ d.weights Tryz.prog t, m ≤ reachBytes := fun j t d ht hd m hm => by
  have := List.all_eq_true.1 hsz' m (DataW.weights_mem_each (j := j) (t := t) (d := d) (by rw [List.getElem?_append_left (List.getElem?_eq_some_iff.1 ht).1]; exact ht) (by rw [List.append_nil]; exact hd) m hm)
  simpa using this
 obtain ⟨n0, h0'⟩ := h0;obtain ⟨n1, h1'⟩ := h1;obtain ⟨n2, h2'⟩ := h2;obtain ⟨iv, ov, ids, xs, e0, ri, ro⟩ := opens_graph _ _ _ h0' (hw 0 25 d0 rfl rfl);obtain ⟨lv, l, e1, rl⟩ := opens_ids _ _ _ h1' (hw 1 22 d1 rfl rfl);obtain ⟨mv, m, e2, rm⟩ := opens_ids _ _ _ h2' (hw 2 22 d2 rfl rfl);have hv0 := hval 0 25 v0 rfl rfl;have hv1 := hval 1 22 v1 rfl rfl;have hv2 := hval 2 22 v2 rfl rfl;obtain rfl : v0 = gV iv ov := cells_agg Tryz.underlying25 hv0 e0;obtain rfl : v1 = lv := cells_slice Tryz.underlying22 hv1 e1;obtain rfl : v2 = mv := cells_slice Tryz.underlying22 hv2 e2;have hwalk := top_merged (c := W) (h := ghOf W) (L := []) hgk ri ro rl rm;refine (hwalk.run W (St.start W)).mono fun e W' ⟨v, h', L', he, hle, s, hv, hLL⟩ => ?_
 subst hv;have hB := below_of hle s;have hlt : ∀ x ∈ p0 ++ p1 ++ p2 ++ [], x.block < W.heap.size := fun x hx => by simpa using hW'.lt x hx
 refine ⟨_, he, _, _, _, [], p0 ++ (p1 ++ p2), [], hW', ?_, ?_, ?_, hB.frame _, fun h => by cases h⟩
 · exact trodAll_mk1 (shut_bool Tryz.underlying4 true)
 · rw [show (Rows.topMergedSpec.fn H ([d0, d1, d2] ++ [])).args = [d0, d1, d2] from rfl]
   exact trodAll_mk3 (Below.trod laid_out rec25 (by rw [sizeT]; decide) ⟨n0, h0'⟩ hB (fun x hx => hlt x (by simp [hx]))) (Below.trod laid_out rec22 (by rw [sizeT]; decide) ⟨n1, h1'⟩ hB (fun x hx => hlt x (by simp [hx]))) (Below.trod laid_out rec22 (by rw [sizeT]; decide) ⟨n2, h2'⟩ hB (fun x hx => hlt x (by simp [hx])))
 · rfl
theorem topMerged_row : Rows.TopMergedSaid :=
 OpenClaim.holds_of_wide 3 Tryz.f3 rfl rfl rfl rfl rfl rfl rfl ⟨rfl, rfl, rfl, rfl, rfl⟩ rfl rfl rfl rfl rfl (by kernel_rfl) Tryz.func3 (by kernel_rfl)
  (of_decide_eq_true (by kernel_rfl)) (by unfold Func.isWrapper; first | (rw [if_pos ae]; kernel_rfl) | (rw [if_neg ae]; exact ⟨rfl, rfl⟩))
  (fun os started H enc _ => lifted os started H enc)
theorem topMerged_holds : Rows.TopMergedCardSaid :=
 Claim7.holds_tied_plain_at .later [] [.data] true (true, "b20397090b9d387f9c95aad58910e017095b42f93945bed2eee3e27916fcef28") false
  topMerged_row (fun _ h => by cases h) (by kernel_rfl) (fun _ h => by cases h) topMerged_row_tie rfl ⟨rfl, rfl⟩ (by kernel_rfl) rfl
  (fun f fn hf hfn => by
   obtain rfl : f = 3 := Option.some.inj ((show Tryz.prog.funcNamed "braid/braidtop.TopMerged" = some 3 by kernel_rfl).symm.trans hf) |>.symm;obtain rfl : fn = Tryz.f3 := (Option.some.inj (Tryz.func3.symm.trans hfn)).symm
   exact ⟨by kernel_rfl, fun j t ht => by
    rw [Tryz.params3] at ht
    have h3 : t = 25 ∨ t = 22 := by
     match j, ht with
     | 0, ht => exact Or.inl (by simpa using ht.symm)
     | 1, ht => exact Or.inr (by simpa using ht.symm)
     | 2, ht => exact Or.inr (by simpa using ht.symm)
     | k + 3, ht => simp at ht
    rcases h3 with rfl | rfl
    · exact (show Tryz.prog.wantsStandIn 25 = false by kernel_rfl)
    · exact (show Tryz.prog.wantsStandIn 22 = false by kernel_rfl)⟩)
  (by kernel_rfl)
#print axioms topMerged_holds
end Go.Proofs.YtjgjcjohbdibnaaGreatDoor
