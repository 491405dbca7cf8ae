/-
  slices.DeleteFunc at texts with fresh's closure: those that are drained go.
-/
import Derived.Test.YtnmkdmehljkedaaGreatDoorBalMem
import Derived.Shelf.SlicesE.DeleteFunc
namespace Go.Proofs.YtnmkdmehljkedaaGreatDoor
open Go.RowKit Go.Maps Go.WideMaps Go.Lib Go.Sort Go.Shelf

section
variable {P : Program} {w : World} {ops : Array Oper} {rest : List Oper} {o : Oper} {a : Act} {Q : Exit → Act → World → Prop} {b n : Nat} {f : ByteArray → Bool}
theorem wp_dr_look (hg : o.guard = none) (m x : Operand) (hop : o.op = Op.lookup 42 m x false) (hm : a.eval m = .map (some b)) (h : DrIs b n f w) (s : ByteArray) (hx : a.eval x = .string s) (hs : s.size ≤ maxLen)
    (hK : wpList Tryz.prog ops Q rest (a.put o.dst (.bool (f s))) w) : wpList Tryz.prog ops Q (o :: rest) a w := by
  refine wpList_plain hg fun K' hK' => ?_
  have hrun := h.look hs
  unfold Oper.wp
  simp [execOp, hop, hm, hx, hrun, Result.andThen]
  exact hK' _ _ hK
end
/-- A text that is not too long. -/
abbrev Str := { s : ByteArray // s.size ≤ maxLen }
instance : Inhabited Str := ⟨⟨⟨#[]⟩, by decide⟩⟩
def encStr (x : Str) : Value := .string x.1
def strsOf (l : List ByteArray) (h : ∀ s ∈ l, s.size ≤ maxLen) : List Str := l.attach.map fun x => ⟨x.1, h x.1 x.2⟩
theorem strsOf_val {l : List ByteArray} (h : ∀ s ∈ l, s.size ≤ maxLen) : (strsOf l h).map Subtype.val = l := by
  unfold strsOf
  rw [List.map_map]
  exact List.attach_map_subtype_val l
theorem strsOf_len {l : List ByteArray} (h : ∀ s ∈ l, s.size ≤ maxLen) : (strsOf l h).length = l.length := by simp [strsOf]
theorem strsOf_enc {l : List ByteArray} (h : ∀ s ∈ l, s.size ≤ maxLen) : (strsOf l h).map encStr = strV l := by
  have : (strsOf l h).map encStr = ((strsOf l h).map Subtype.val).map Value.string := by rw [List.map_map]; rfl
  rw [this, strsOf_val]; rfl
theorem strs_filter (p : ByteArray → Bool) (d : List Str) : (d.filter fun x => p x.1).map Subtype.val = (d.map Subtype.val).filter p := by
  rw [List.filter_map]; rfl
theorem fresh1_any {bx bp db nd : Nat} {dr : ByteArray → Bool} (s : ByteArray) (W : World) (hs : s.size ≤ maxLen) (hc : W.cell? ⟨bx, 0, none⟩ = some (.pointer (some ⟨bp, 0, none⟩))) (hb : W.cell? ⟨bp, 4, none⟩ = some (.map (some db))) (hd : DrIs db nd dr W) :
    Calls Tryz.prog 32 #[.string s, .pointer (some ⟨bx, 0, none⟩)] W fun e w' => e = .returned (.bool (dr s)) ∧ ∃ q, w' = W.drewN q := by
  go_enter Tryz.func32, Tryz.ntmps32
  go_wp2_with (first
    | (at_lookup; refine wp_dr_look rfl _ _ rfl rfl hd s rfl hs ?_)
    | fail)
  go_ret
  exact ⟨rfl, 0, rfl⟩
def DelStr (g cap : Nat) (l : List ByteArray) (w : World) (e : Ending) (w' : World) : Prop := e = .returned (.slice (some ⟨g, 0, none⟩) l.length cap) ∧ Reads w' w'.heap.size 1 (some ⟨g, 0, none⟩) l.length (strV l) ∧ w.grownBy w' (some g)
set_option maxHeartbeats 1000000 in
theorem delStr_any {B g n cap bx bp db nd : Nat} {dr : ByteArray → Bool} {l : List ByteArray} (w : World) (ho : w.ownsRow B 9 1 (.slice (some ⟨g, 0, none⟩) n cap) n (strV l)) (hs : ∀ s ∈ l, s.size ≤ maxLen)
    (hc : w.cell? ⟨bx, 0, none⟩ = some (.pointer (some ⟨bp, 0, none⟩))) (hb : w.cell? ⟨bp, 4, none⟩ = some (.map (some db))) (hd : DrIs db nd dr w) (n1 : bx ≠ g) (n2 : bp ≠ g) :
    Calls Tryz.prog 31 #[.slice (some ⟨g, 0, none⟩) n cap, .func (.func 32) #[] #[.pointer (some ⟨bx, 0, none⟩)]] w (DelStr g cap (l.filter fun s => !dr s) w) := by
  obtain ⟨hl, hB, hnc, hcm, _⟩ := own_open ho
  have hll : l.length = n := by simpa [strV] using hl
  obtain ⟨es, cl, hdh⟩ := hd.heap
  have n3 : db ≠ g := fun e => own_not_map ho hdh (by rw [e]; rfl)
  have hH : Holds encStr w g 0 (strsOf l hs).toArray := holds_map encStr (by
    have := own_holds ho
    rw [← strsOf_enc hs] at this
    simpa using this)
  have eg : ∀ args w, (callFunc 32 args).run Tryz.prog w = .ok (.enter 32 args) w := enters_of Tryz.func32 (by kernel_rfl) rfl
  have hsz : ((strsOf l hs).toArray).size = n := by simp [strsOf_len, hll]
  unfold maxLen at hcm
  have hp : PredAt Tryz.prog 32 #[.pointer (some ⟨bx, 0, none⟩)] encStr (fun x => dr x.1) w := fun W x hW =>
    fresh1_any x.1 W x.2 ((Turn.of_below (bs := []) hW).cell hc (by simp)) ((Turn.of_below (bs := []) hW).cell hb (by simp)) (hd.below hW)
  have hpo : PredOver Tryz.prog 32 #[.pointer (some ⟨bx, 0, none⟩)] encStr (fun x => dr x.1) g 0 ((strsOf l hs).toArray).size w := fun m os dk x _ => by
    have ht : Turn [g] w (sortWorld encStr w g 0 m dk os) := by
      unfold sortWorld
      rw [putRow_map encStr]
      exact Turn.of_grown (grownBy_put _) (fun j hj => by cases hj; simp)
    exact fresh1_any x.1 _ x.2 (ht.cell hc (by simpa using n1)) (ht.cell hb (by simpa using n2)) (hd.turn ht (by simpa using n3))
  have hcon := AnyE.slices_DeleteFunc Tryz.delStr encStr (fun _ => rfl) (fun x => dr x.1) 32 #[.pointer (some ⟨bx, 0, none⟩)] eg ⟨⟨#[]⟩, by decide⟩ Tryz.zeroValue9 g 0 cap (strsOf l hs).toArray w hp hpo hH (by rw [hsz]; omega) (by rw [hsz]; exact hnc)
  rw [hsz] at hcon
  change Calls Tryz.prog 31 _ _ _ at hcon
  refine hcon.mono ?_
  rintro e w' ⟨rfl, q, rfl⟩
  have hfl : ((strsOf l hs).filter fun x => !dr x.1).map encStr = strV (l.filter fun s => !dr s) := by
    have e1 : ((strsOf l hs).filter fun x => !dr x.1).map encStr = (((strsOf l hs).filter fun x => !dr x.1).map Subtype.val).map Value.string := by rw [List.map_map]; rfl
    rw [e1, strs_filter (fun s => !dr s), strsOf_val]; rfl
  have hlen : ((strsOf l hs).filter fun x => !dr x.1).length = (l.filter fun s => !dr s).length := by
    have := congrArg List.length hfl
    simpa [strV] using this
  have hle : (l.filter fun s => !dr s).length ≤ n := by rw [← hll]; exact List.length_filter_le _ _
  have hfv : (strV (l.filter fun s => !dr s)).length = (l.filter fun s => !dr s).length := by simp [strV]
  have hput := own_put (ys := strV (l.filter fun s => !dr s) ++ List.replicate (n - (l.filter fun s => !dr s).length) (Value.string ⟨#[]⟩)) ho (by rw [List.length_append, hfv, List.length_replicate, hl]; omega) q #[]
  rw [grow_empty] at hput
  have e2 := putRow_map encStr (Sort.ahead w q) g (((strsOf l hs).filter fun x => !dr x.1) ++ List.replicate (n - ((strsOf l hs).filter fun x => !dr x.1).length) (⟨⟨#[]⟩, by decide⟩ : Str)).toArray
  have e3 : ((((strsOf l hs).filter fun x => !dr x.1) ++ List.replicate (n - ((strsOf l hs).filter fun x => !dr x.1).length) (⟨⟨#[]⟩, by decide⟩ : Str)).toArray).map encStr = (strV (l.filter fun s => !dr s) ++ List.replicate (n - (l.filter fun s => !dr s).length) (Value.string ⟨#[]⟩)).toArray := by
    rw [List.map_toArray, List.map_append, hfl, hlen, List.map_replicate]; rfl
  have hcut := own_cut hput.1 hle
  rw [Nat.mul_one, List.take_left' hfv] at hcut
  refine ⟨by rw [hlen], ?_, ?_⟩
  · rw [e2, e3]
    exact Reads.of_own hcut
  · rw [e2, e3]
    exact hput.2
end Go.Proofs.YtnmkdmehljkedaaGreatDoor
