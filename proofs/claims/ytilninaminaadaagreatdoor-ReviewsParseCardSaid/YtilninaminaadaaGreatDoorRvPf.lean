/- What a line leaves of a review, plain. -/
import Derived.Test.YtilninaminaadaaGreatDoorRvPc
import Derived.Lib.SplitLaws
import Derived.Lib.CutLaws
namespace Go.Proofs.YtilninaminaadaaGreatDoor

section
/-- strings.Split. -/
def spl (sep s : ByteArray) : List ByteArray := Lib.splitB sep 0 (Lib.countB s sep) s
theorem spl_len {sep s : ByteArray} (h1 : 1 ≤ sep.size) : (spl sep s).length = Lib.countB s sep + 1 := Lib.splitB_all sep h1 0 _ s rfl
theorem spl_miss {sep s : ByteArray} (h : Lib.indexB s sep = -1) : spl sep s = [s] := Lib.splitB_miss _ _ _ _ h
theorem spl_hit {sep s : ByteArray} {i : Nat} (h1 : 1 ≤ sep.size) (h : Lib.indexB s sep = i) : spl sep s = s.extract 0 i :: spl sep (s.extract (i + sep.size) s.size) := by
  unfold spl
  rw [Lib.countB_hit s sep i h1 h, Nat.add_comm, Lib.splitB_hit _ _ _ _ _ h, Nat.add_zero]
theorem extract_le (s : ByteArray) (a b : Nat) : (s.extract a b).size ≤ s.size := by
  rw [ByteArray.size_extract]; omega
theorem spl_size {sep : ByteArray} (h1 : 1 ≤ sep.size) : ∀ (n : Nat) (s p : ByteArray), s.size ≤ n → p ∈ spl sep s → p.size ≤ s.size
  | 0, s, p, hn, hp => by
    rcases Lib.indexB_cases s sep with h | ⟨i, h, hi⟩
    · rw [spl_miss h] at hp; rw [List.mem_singleton.1 hp]; exact Nat.le_refl _
    · omega
  | n + 1, s, p, hn, hp => by
    rcases Lib.indexB_cases s sep with h | ⟨i, h, hi⟩
    · rw [spl_miss h] at hp; rw [List.mem_singleton.1 hp]; exact Nat.le_refl _
    · rw [spl_hit h1 h] at hp
      rcases List.mem_cons.1 hp with rfl | hp
      · exact extract_le _ _ _
      · have hsz : (s.extract (i + sep.size) s.size).size ≤ n := by rw [ByteArray.size_extract]; omega
        exact Nat.le_trans (spl_size h1 n _ p hsz hp) (extract_le _ _ _)
theorem spl_mem_size {sep s p : ByteArray} (h1 : 1 ≤ sep.size) (hp : p ∈ spl sep s) : p.size ≤ s.size := spl_size h1 _ s p (Nat.le_refl _) hp
theorem spl_pos {sep s : ByteArray} (h1 : 1 ≤ sep.size) : 1 ≤ (spl sep s).length := by rw [spl_len h1]; omega

def nlB : ByteArray := ⟨#[10]⟩
def spB : ByteArray := ⟨#[32]⟩
end

section
open Go.RowKit

def apprPre : ByteArray := ⟨#[97, 112, 112, 114, 111, 118, 101, 100, 32]⟩
def colB : ByteArray := ⟨#[58, 32]⟩
def wNote : ByteArray := ⟨#[110, 111, 116, 101]⟩
def wReply : ByteArray := ⟨#[114, 101, 112, 108, 121]⟩
/-- Go's <= on texts, as the walk spells it. -/
def leS (a b : ByteArray) : Bool := Op.bytesLess a.toList b.toList || a.toList == b.toList
/-- A line, of words. -/
def apprO (σ : Rv) (ap : Bool) (last : ByteArray) : List ByteArray → Option (ByteArray × Rv)
  | [_, w1, w2] => if apprE σ w1 w2 ≠ 0 then none else if ap = true ∧ leS w1 last = true then none else some (w1, apprS σ w1 w2)
  | _ => none
def headO (σ : Rv) (text : ByteArray) : List ByteArray → Option (ByteArray × Rv)
  | [w0, w1, w2, w3, w4, w5] => if w0 = wNote then (noteO σ w1 w2 w3 w4 w5 text).map fun τ => (⟨#[]⟩, τ) else none
  | [w0, w1] => if w0 = wReply then (replyO σ w1 text).map fun τ => (⟨#[]⟩, τ) else none
  | _ => none
def lineO (σ : Rv) (ap : Bool) (last : ByteArray) (s : ByteArray) : Option (ByteArray × Rv) :=
  if Lib.hasPrefix s.data.toList apprPre.data.toList = true then apprO σ ap last (spl spB s)
  else if ap = true ∨ (Lib.cut s.data.toList colB.data.toList).2.2 = false then none
  else headO σ ⟨(Lib.cut s.data.toList colB.data.toList).2.1.toArray⟩ (spl spB ⟨(Lib.cut s.data.toList colB.data.toList).1.toArray⟩)
def LineR (W : World) (p : Nat) (F : Nat → Prop) (o : Option (ByteArray × Rv)) (e : Ending) (w' : World) : Prop := ∃ sh er, e = .returned (.tuple #[.string sh, .int .i64 er]) ∧ ((er = 0 ∧ ∃ σ', o = some (sh, σ') ∧ VGo W p σ' F w') ∨ (er ≠ 0 ∧ o = none ∧ Fr F W w'))
theorem split_env (s : ByteArray) (w : World) (E : EnvT w) (hs : s.size ≤ 1048576) : Calls Tryz.prog 42 #[.string s, .string ⟨#[32]⟩] w fun e w' => ∃ g n cs, e = .returned (.slice (some ⟨g, 0, none⟩) n n) ∧ g = w.heap.size ∧ n = (spl spB s).length ∧ Bx w' g 9 cs ∧ cs = ((spl spB s).map Value.string).toArray ∧ Below w.heap.size w w' := by
  obtain ⟨m, hm⟩ := E.max
  refine (Tryz.strings_Split s ⟨#[32]⟩ m w (by omega) hm (by decide)).mono ?_
  rintro e w' ⟨rfl, rfl⟩
  refine ⟨_, _, _, rfl, rfl, (spl_len (by decide)).symm, Bx.new _ _ _, rfl, bnew (Below.refl _ _)⟩
set_option maxRecDepth 100000 in
set_option maxHeartbeats 8000000 in
theorem line_appr (p : Nat) (σ : Rv) (F : Nat → Prop) (vn : Value) (m : Nat) (rv : Nat → Value) (s : ByteArray) (ap : Bool) (last : ByteArray) (W : World) (h : VO W p σ F vn m rv) (wf : Wf σ) (E : EnvT W) (hs : s.size ≤ 1048576) (hl : σ.appr.length ≤ 999999999) (hp : Lib.hasPrefix s.data.toList apprPre.data.toList = true) :
    Calls Tryz.prog 34 #[.pointer (some ⟨p, 0, none⟩), .string s, .bool ap, .string last] W (LineR W p F (apprO σ ap last (spl spB s))) := by
  have H := Lib.hid h
  have Hwf := Lib.hid wf
  have KP := Lib.hid (fun w => Tryz.strings_HasPrefix s apprPre w)
  rw [hp] at KP
  have KS := Lib.hid (fun w E => split_env s w E hs)
  obtain ⟨ws, hws⟩ : ∃ ws, ws = spl spB s := ⟨_, rfl⟩
  rw [← hws] at KS ⊢
  clear h wf hp hws
  go_enter Tryz.func34, Tryz.ntmps34
  go_wp2_with fail
  refine (KP.out _).mono ?_
  rintro e w1 ⟨rfl, rfl⟩
  go_wp2_with fail
  refine (KS.out _ E).mono ?_
  rintro e w2 ⟨gw, n, cs, rfl, hgw, hn, x, hcs, B⟩
  clear KS KP
  by_cases h3 : n = 3
  · subst h3
    obtain ⟨v0, v1, v2, rfl⟩ : ∃ v0 v1 v2, ws = [v0, v1, v2] := by
      match ws, hn with
      | [a, b, c], _ => exact ⟨a, b, c, rfl⟩
    subst hcs
    skip
    have hgF : ¬ F gw := fun hF => by have := H.out.flt gw hF; omega
    have HGF := Lib.hid hgF
    clear hgw hgF
    go_upto_region 5 with fail
    refine wp_region_grd 7 (fun _ => false) (fun q u w' => u = [.pointer (some ⟨p, 0, none⟩), .slice (some ⟨gw, 0, none⟩) 3 3, .pointer (some ⟨gw, 1, none⟩), .string v1, .slice (some ⟨gw, 0, none⟩) 3 3, .pointer (some ⟨gw, 2, none⟩), .string v2].getD q undef) (fun _ => false) (fun w' => Below w2.heap.size w2 w') (by kernel_rfl) (by kernel_rfl) (fun _ _ _ _ _ h => h)
      (fun _ _ h e => e.trans (h.mono e.size)) (fun t u a' b' hb h => ?_) (Below.refl _ _).drew ?_ ?_ ?_
    · exact h
    · intro t op ht hlt hop
      clear hlt
      rcases (by omega : t = 0 ∨ t = 1 ∨ t = 2 ∨ t = 3 ∨ t = 4 ∨ t = 5 ∨ t = 6) with rfl | rfl | rfl | rfl | rfl | rfl | rfl
      all_goals simp only [List.getElem?_cons_zero, List.getElem?_cons_succ, Option.some.injEq] at hop
      all_goals subst hop
      all_goals intro a wx hE hag hdep
      · refine grd_none rfl ?_
        have e0 := slot_eq (hag 0 rfl)
        exact rel_pure _ rfl rfl (by simp [go_sem, e0])
      · refine grd_none rfl ?_
        have e0 := slot_eq (hag 10 rfl)
        exact rel_pure _ rfl rfl (by simp [go_sem, e0])
      · refine grd_none rfl ?_
        have e0 := slot_eq (hdep ⟨1, .data⟩ (by simp) rfl)
        exact rel_pure _ rfl rfl (by simp [go_sem, e0])
      · refine grd_none rfl ?_
        have e0 := slot_eq (hdep ⟨2, .data⟩ (by simp) rfl)
        have hq := (x.keep hE).all.1
        exact rel_pure _ rfl rfl (by simp [go_sem, e0, hq])
      · refine grd_none rfl ?_
        have e0 := slot_eq (hag 10 rfl)
        exact rel_pure _ rfl rfl (by simp [go_sem, e0])
      · refine grd_none rfl ?_
        have e0 := slot_eq (hdep ⟨4, .data⟩ (by simp) rfl)
        exact rel_pure _ rfl rfl (by simp [go_sem, e0])
      · refine grd_none rfl ?_
        have e0 := slot_eq (hdep ⟨5, .data⟩ (by simp) rfl)
        have hq := (x.keep hE).all.1
        exact rel_pure _ rfl rfl (by simp [go_sem, e0, hq])
    · intro t op ht hlt; cases hlt
    · intro vs w3 hE hvs _
      have k0 : vs 0 = .pointer (some ⟨p, 0, none⟩) := hvs 0 (by omega)
      have k3 : vs 3 = .string v1 := hvs 3 (by omega)
      have k6 : vs 6 = .string v2 := hvs 6 (by omega)
      simp only [List.drop_succ_cons, List.drop_zero, putAll, dstAt, List.getElem?_toArray, List.getElem?_cons_zero, List.getElem?_cons_succ, Option.bind_some, Act.put, List.setIfInBounds_toArray, List.set_cons_zero, List.set_cons_succ, k0, k3, k6]
      clear hvs k0 k3 k6
      have B3 := bcall B hE
      have x3 := x.keep hE
      have KA := Lib.hid (conform_Approve p σ F vn m rv v1 v2 w3 (H.out.keep B3) Hwf.out (by omega))
      obtain ⟨er, her⟩ : ∃ r, r = apprE σ v1 v2 := ⟨_, rfl⟩
      rw [← her] at KA
      have HER := Lib.hid her
      clear her hE
      go_wp2_with fail
      refine KA.out.mono ?_
      rintro e w4 ⟨rfl, g4⟩
      have x4 : Bx w4 gw 9 _ := (g4.fr.block gw x3.lt HGF.out).trans x3
      have G4 := Lib.hid (g4.pre B3)
      clear g4 KA x3 x
      obtain ⟨q, f, l⟩ := x4.all
      by_cases h0 : er = 0
      · subst h0
        rw [show apprN σ v1 v2 = apprS σ v1 v2 by unfold apprN; rw [if_pos HER.out.symm]] at G4
        have hne : ¬ apprE σ v1 v2 ≠ 0 := fun h => h HER.out.symm
        cases ap
        · have HO : Hid (apprO σ false last [v0, v1, v2] = some (v1, apprS σ v1 v2)) := Lib.hid (by simp only [apprO]; rw [if_neg hne, if_neg (by simp)])
          clear hne
          go_wp2_with fail
          go_ret2
          exact ⟨_, 0, rfl, .inl ⟨rfl, _, HO.out, G4.out⟩⟩
        · cases hle : leS v1 last
          · have HO : Hid (apprO σ true last [v0, v1, v2] = some (v1, apprS σ v1 v2)) := Lib.hid (by simp only [apprO]; rw [if_neg hne, if_neg (by rw [hle]; simp)])
            have hle' : (Op.bytesLess v1.toList last.toList || v1.toList == last.toList) = false := hle
            clear hne hle
            go_wp2_with fail
            go_ret2
            exact ⟨_, 0, rfl, .inl ⟨rfl, _, HO.out, G4.out⟩⟩
          · have HO : Hid (apprO σ true last [v0, v1, v2] = none) := Lib.hid (by simp only [apprO]; rw [if_neg hne, if_pos (by simp [hle])])
            have hle' : (Op.bytesLess v1.toList last.toList || v1.toList == last.toList) = true := hle
            clear hne hle
            go_wp2_with fail
            go_ret2
            exact ⟨_, 8, rfl, .inr ⟨by decide, HO.out, G4.out.fr⟩⟩
      · have h0' : (er == 0) = false := by simpa using h0
        have hO : apprO σ ap last [v0, v1, v2] = none := by simp only [apprO]; rw [if_pos (by rw [← HER.out]; exact h0)]
        have HO := Lib.hid hO
        have H0 := Lib.hid h0
        clear h0 hO
        go_wp2_with fail
        go_ret2
        exact ⟨_, er, rfl, .inr ⟨H0.out, HO.out, G4.out.fr⟩⟩
  · have h3' : ((n : Int) == 3) = false := by simp; omega
    have hO : apprO σ ap last ws = none := by
      match ws, hn with
      | [], _ => rfl
      | [_], _ => rfl
      | [_, _], _ => rfl
      | [_, _, _], hn => exact absurd hn h3
      | _ :: _ :: _ :: _ :: _, _ => rfl
    have HO := Lib.hid hO
    clear hO hcs hn
    go_wp2_with fail
    go_ret2
    exact ⟨_, 9, rfl, .inr ⟨by decide, HO.out, Fr.of_below B⟩⟩
theorem cut_len (l sep : List UInt8) : (Lib.cut l sep).1.length ≤ l.length ∧ (Lib.cut l sep).2.1.length ≤ l.length := by
  unfold Lib.cut
  split
  · constructor
    · simp only [List.length_take]; omega
    · simp
  · simp
theorem cut_env (s : ByteArray) (w : World) (E : EnvT w) (hs : s.size ≤ 1048576) : Calls Tryz.prog 57 #[.string s, .string ⟨#[58, 32]⟩] w fun e w' => e = .returned (.tuple #[.string ⟨(Lib.cut s.data.toList colB.data.toList).1.toArray⟩, .string ⟨(Lib.cut s.data.toList colB.data.toList).2.1.toArray⟩, .bool (Lib.cut s.data.toList colB.data.toList).2.2]) ∧ Below w.heap.size w w' := by
  obtain ⟨m, hm⟩ := E.max
  refine (Tryz.strings_Cut s ⟨#[58, 32]⟩ m w (by omega) hm).mono ?_
  rintro e w' ⟨rfl, n, rfl⟩
  exact ⟨rfl, below_drewN (Below.refl _ _) _⟩
theorem LineR.none9 {W w' : World} {p : Nat} {F : Nat → Prop} {o : Option (ByteArray × Rv)} (ho : o = none) (hf : Fr F W w') : LineR W p F o (.returned (.tuple #[.string ⟨#[]⟩, .int .i64 9])) w' := ⟨_, 9, rfl, .inr ⟨by decide, ho, hf⟩⟩
set_option maxRecDepth 100000 in
set_option maxHeartbeats 16000000 in
theorem line_head (p : Nat) (σ : Rv) (F : Nat → Prop) (vn : Value) (m : Nat) (rv : Nat → Value) (s : ByteArray) (ap : Bool) (last : ByteArray) (W : World) (h : VO W p σ F vn m rv) (wf : Wf σ) (E : EnvT W) (hs : s.size ≤ 1048576) (hap : ap = false → σ.appr = []) (hp : Lib.hasPrefix s.data.toList apprPre.data.toList = false) :
    Calls Tryz.prog 34 #[.pointer (some ⟨p, 0, none⟩), .string s, .bool ap, .string last] W (LineR W p F (if ap = true ∨ (Lib.cut s.data.toList colB.data.toList).2.2 = false then none else headO σ ⟨(Lib.cut s.data.toList colB.data.toList).2.1.toArray⟩ (spl spB ⟨(Lib.cut s.data.toList colB.data.toList).1.toArray⟩))) := by
  have H := Lib.hid h
  have Hwf := Lib.hid wf
  have KP := Lib.hid (fun w => Tryz.strings_HasPrefix s apprPre w)
  rw [hp] at KP
  have KC := Lib.hid (fun w E => cut_env s w E hs)
  have hlen := cut_len s.data.toList colB.data.toList
  generalize (Lib.cut s.data.toList colB.data.toList).1 = hd at *
  generalize (Lib.cut s.data.toList colB.data.toList).2.1 = tl at *
  generalize (Lib.cut s.data.toList colB.data.toList).2.2 = ct at *
  rw [← Lib.size_eq] at hlen
  obtain ⟨HD, hHD⟩ : ∃ b, b = (⟨hd.toArray⟩ : ByteArray) := ⟨_, rfl⟩
  obtain ⟨TX, hTX⟩ : ∃ b, b = (⟨tl.toArray⟩ : ByteArray) := ⟨_, rfl⟩
  rw [← hHD, ← hTX] at KC ⊢
  have hHs : HD.size ≤ 1048576 := by rw [Lib.size_eq, hHD]; simpa using (by omega : hd.length ≤ 1048576)
  have KS := Lib.hid (fun w E => split_env HD w E hHs)
  have hw1 := spl_pos (sep := spB) (s := HD) (by decide)
  obtain ⟨ws, hws⟩ : ∃ ws, ws = spl spB HD := ⟨_, rfl⟩
  rw [← hws] at KS hw1 ⊢
  have hsz : ∀ v, v ∈ ws → v.size ≤ 1048576 := fun v hv => by
    rw [hws] at hv
    have := spl_mem_size (by decide) hv
    omega
  have HSZ := Lib.hid hsz
  have HAP := Lib.hid hap
  obtain ⟨oo, hoo⟩ : ∃ o, o = (if ap = true ∨ ct = false then none else headO σ TX ws) := ⟨_, rfl⟩
  rw [← hoo]
  have HOO := Lib.hid hoo
  clear hoo
  clear h wf hp hws hHD hTX hHs hlen hsz hap
  go_enter Tryz.func34, Tryz.ntmps34
  go_wp2_with fail
  refine (KP.out _).mono ?_
  rintro e w1 ⟨rfl, rfl⟩
  go_wp2_with fail
  refine (KC.out _ E).mono ?_
  rintro e w2 ⟨rfl, B2⟩
  have E2 := E.below B2
  go_wp2_with fail
  refine (KS.out _ E2).mono ?_
  rintro e w3 ⟨gw, n, cs, rfl, hgw, hn, x, hcs, hb⟩
  have B := bcall B2 hb
  have hgF : ¬ F gw := fun hF => by have := H.out.flt gw hF; have := B2.size; omega
  have HGF := Lib.hid hgF
  clear KS KP KC B2 E2 hb hgw hgF
  by_cases hbad : ap = true ∨ ct = false
  · have HO : Hid (oo = none) := Lib.hid (by rw [HOO.out, if_pos hbad])
    clear x hcs hn
    rcases hbad with rfl | rfl
    · go_wp2_with fail
      go_ret2
      exact LineR.none9 HO.out (Fr.of_below B)
    · cases ap
      all_goals
        go_wp2_with fail
        go_ret2
        exact LineR.none9 HO.out (Fr.of_below B)
  · replace HOO : Hid (oo = headO σ TX ws) := Lib.hid (by rw [HOO.out, if_neg hbad])
    obtain ⟨rfl, rfl⟩ : ap = false ∧ ct = true := by cases ap <;> cases ct <;> simp at hbad ⊢
    have HA := Lib.hid (HAP.out rfl)
    clear hbad HAP
    by_cases h6 : n = 6
    · subst h6
      obtain ⟨v0, v1, v2, v3, v4, v5, rfl⟩ : ∃ v0 v1 v2 v3 v4 v5, ws = [v0, v1, v2, v3, v4, v5] := by
        match ws, hn with
        | [a, b, c, d, e, f], _ => exact ⟨a, b, c, d, e, f, rfl⟩
      subst hcs
      clear hn
      have K := Lib.hid (conform_noteLine p σ F vn m rv gw v0 v1 v2 v3 v4 v5 TX w3 (H.out.keep B) Hwf.out x HGF.out (by have := HSZ.out v1 (by simp); omega) (by have := HSZ.out v3 (by simp); omega))
      obtain ⟨q, f, l⟩ := x.all
      by_cases hw : v0 = wNote
      · have hw0 : (v0.toList == [110, 111, 116, 101]) = true := by rw [list_beq]; exact decide_eq_true hw
        have HO : Hid (oo = (noteO σ v1 v2 v3 v4 v5 TX).map fun τ => (⟨#[]⟩, τ)) := Lib.hid (by rw [HOO.out]; simp only [headO]; rw [if_pos hw])
        clear hw
        go_wp2_with fail
        refine K.out.mono ?_
        rintro e w4 ⟨er, rfl, hr⟩
        go_wp2_with fail
        go_ret2
        refine ⟨_, er, rfl, ?_⟩
        rw [HO.out]
        rcases hr with ⟨rfl, τ, h1, h2⟩ | ⟨h0, h1, h2⟩
        · exact .inl ⟨rfl, τ, by rw [h1]; rfl, h2.pre B⟩
        · exact .inr ⟨h0, by rw [h1]; rfl, (Fr.of_below B).trans h2 (fun b e => .inl e)⟩
      · have hw0 : (v0.toList == [110, 111, 116, 101]) = false := by rw [list_beq]; exact decide_eq_false hw
        have HO : Hid (oo = none) := Lib.hid (by rw [HOO.out]; simp only [headO]; rw [if_neg hw])
        clear hw K
        go_wp2_with fail
        all_goals
          go_ret2
          exact LineR.none9 HO.out (Fr.of_below B)
    · by_cases h2 : n = 2
      · subst h2
        obtain ⟨v0, v1, rfl⟩ : ∃ v0 v1, ws = [v0, v1] := by
          match ws, hn with
          | [a, b], _ => exact ⟨a, b, rfl⟩
        subst hcs
        clear hn h6
        have K := Lib.hid (conform_replyLine p σ F vn m rv v1 TX w3 (H.out.keep B) Hwf.out HA.out)
        obtain ⟨q, f, l⟩ := x.all
        by_cases hw : v0 = wReply
        · have hw0 : (v0.toList == [114, 101, 112, 108, 121]) = true := by rw [list_beq]; exact decide_eq_true hw
          have hw1 : (v0.toList == [110, 111, 116, 101]) = false := by rw [list_beq]; exact decide_eq_false (by rw [hw]; decide)
          have HO : Hid (oo = (replyO σ v1 TX).map fun τ => (⟨#[]⟩, τ)) := Lib.hid (by rw [HOO.out]; simp only [headO]; rw [if_pos hw])
          clear hw
          go_wp2_with fail
          refine K.out.mono ?_
          rintro e w4 ⟨er, rfl, hr⟩
          go_wp2_with fail
          go_ret2
          refine ⟨_, er, rfl, ?_⟩
          rw [HO.out]
          rcases hr with ⟨rfl, τ, h1, h2⟩ | ⟨h0, h1, h2⟩
          · exact .inl ⟨rfl, τ, by rw [h1]; rfl, h2.pre B⟩
          · exact .inr ⟨h0, by rw [h1]; rfl, (Fr.of_below B).trans h2 (fun b e => .inl e)⟩
        · have hw0 : (v0.toList == [114, 101, 112, 108, 121]) = false := by rw [list_beq]; exact decide_eq_false hw
          have HO : Hid (oo = none) := Lib.hid (by rw [HOO.out]; simp only [headO]; rw [if_neg hw])
          clear hw K
          go_wp2_with fail
          all_goals
            go_ret2
            exact LineR.none9 HO.out (Fr.of_below B)
      · have HO : Hid (oo = none) := Lib.hid (by
          rw [HOO.out]
          match ws, hn with
          | [], _ => rfl
          | [_], _ => rfl
          | [_, _], hn => exact absurd hn h2
          | [_, _, _], _ => rfl
          | [_, _, _, _], _ => rfl
          | [_, _, _, _, _], _ => rfl
          | [_, _, _, _, _, _], hn => exact absurd hn h6
          | _ :: _ :: _ :: _ :: _ :: _ :: _ :: _, _ => rfl)
        obtain ⟨v0, r, rfl⟩ : ∃ v0 r, ws = v0 :: r := by
          cases ws with
          | nil => simp at hw1
          | cons a r => exact ⟨a, r, rfl⟩
        have hq0 : w3.cell? ⟨gw, 0, none⟩ = some (.string v0) := by rw [x.all.1 0, hcs]; simp
        have h6' : ((n : Int) == 6) = false := by simp; omega
        have h2' : ((n : Int) == 2) = false := by simp; omega
        have hn0 : (0 : Int) < (n : Int) := by omega
        clear hcs x hn h6 h2
        go_wp2_with fail
        all_goals
          go_ret2
          exact LineR.none9 HO.out (Fr.of_below B)
theorem conform_line (p : Nat) (σ : Rv) (F : Nat → Prop) (vn : Value) (m : Nat) (rv : Nat → Value) (s : ByteArray) (ap : Bool) (last : ByteArray) (W : World) (h : VO W p σ F vn m rv) (wf : Wf σ) (E : EnvT W) (hs : s.size ≤ 1048576) (hap : ap = false → σ.appr = []) (hl : σ.appr.length ≤ 999999999) :
    Calls Tryz.prog 34 #[.pointer (some ⟨p, 0, none⟩), .string s, .bool ap, .string last] W (LineR W p F (lineO σ ap last s)) := by
  unfold lineO
  by_cases hp : Lib.hasPrefix s.data.toList apprPre.data.toList = true
  · rw [if_pos hp]; exact line_appr p σ F vn m rv s ap last W h wf E hs hl hp
  · rw [if_neg hp]; exact line_head p σ F vn m rv s ap last W h wf E hs hap (by simpa using hp)
end

section
open Go.RowKit

def noB : ByteArray := ⟨#[]⟩
/-- The next line, what is left, and whether the line was ended. -/
def cutR (T : ByteArray) : ByteArray × ByteArray × Bool :=
  (⟨(Lib.cut T.data.toList nlB.data.toList).1.toArray⟩, ⟨(Lib.cut T.data.toList nlB.data.toList).2.1.toArray⟩, (Lib.cut T.data.toList nlB.data.toList).2.2)
theorem cutR_cases (T : ByteArray) : (spl nlB T = [T] ∧ cutR T = (T, noB, false)) ∨ ∃ l T', cutR T = (l, T', true) ∧ spl nlB T = l :: spl nlB T' ∧ l.size ≤ T.size ∧ T'.size ≤ T.size := by
  rcases Lib.indexB_cases T nlB with h | ⟨i, h, hi⟩
  · obtain ⟨h1, h2, h3⟩ := Lib.cutB_miss T nlB h
    refine .inl ⟨spl_miss h, ?_⟩
    unfold cutR
    rw [h1, h2, h3]; rfl
  · obtain ⟨h1, h2, h3⟩ := Lib.cutB_hit T nlB i h
    refine .inr ⟨_, _, ?_, spl_hit (by decide) h, extract_le _ _ _, extract_le _ _ _⟩
    unfold cutR
    rw [h1, h2, h3]
theorem spl_cons (sep s : ByteArray) (h1 : 1 ≤ sep.size) : ∃ m r, spl sep s = m :: r := by
  have := spl_pos (s := s) h1
  cases h : spl sep s with
  | nil => rw [h] at this; cases this
  | cons m r => exact ⟨m, r, rfl⟩
theorem spl_empty {T : ByteArray} : spl nlB T = [noB] ↔ T = noB := by
  constructor
  · intro h
    rcases cutR_cases T with ⟨h1, _⟩ | ⟨l, T', _, h1, _⟩
    · rw [h1] at h; simpa using h
    · obtain ⟨m, r, hm⟩ := spl_cons nlB T' (by decide)
      rw [h1, hm] at h; simp at h
  · rintro rfl
    exact spl_miss (by decide)


set_option maxRecDepth 100000 in
set_option maxHeartbeats 4000000 in
theorem lines_next (gl : Nat) (T : ByteArray) (k : Int) (W : World) (E : EnvT W) (x : Bx W gl 78 #[.string T, .int .i64 k]) (hT : T.size ≤ 1048576) (hk0 : -1 ≤ k) (hk : k ≤ 1048577) :
    Calls Tryz.prog 33 #[.pointer (some ⟨gl, 0, none⟩)] W fun e w' => e = .returned (.tuple #[.string (cutR T).1, .bool (cutR T).2.2]) ∧ Bx w' gl 78 #[.string (cutR T).2.1, .int .i64 (k + 1)] ∧ Fr (fun b => b = gl) W w' := by
  obtain ⟨m, hm⟩ := E.max
  obtain ⟨l, T', b, hc⟩ : ∃ l T' b, cutR T = (l, T', b) := ⟨_, _, _, rfl⟩
  rw [hc]
  have h1 : (⟨(Lib.cut T.data.toList nlB.data.toList).1.toArray⟩ : ByteArray) = l := congrArg (·.1) hc
  have h2 : (⟨(Lib.cut T.data.toList nlB.data.toList).2.1.toArray⟩ : ByteArray) = T' := congrArg (·.2.1) hc
  have h3 : (Lib.cut T.data.toList nlB.data.toList).2.2 = b := congrArg (·.2.2) hc
  have H1 := Lib.hid h1
  have H2 := Lib.hid h2
  have H3 := Lib.hid h3
  have hkw : IntKind.i64.wrap (k + 1) = k + 1 := by rw [IntKind.wrap_i64]; omega
  clear h1 h2 h3 hc
  obtain ⟨q, f, lx⟩ := x.all
  go_enter Tryz.func33, Tryz.ntmps33
  go_wp2_with fail
  refine (Tryz.strings_Cut T nlB m _ (by omega) hm).mono ?_
  rw [H1.out, H2.out, H3.out]
  rintro e w1 ⟨rfl, n, rfl⟩
  clear H1 H2 H3 hm q f lx
  have B1 : Below W.heap.size W (W.drewN n) := below_drewN (Below.refl _ _) _
  have x1 := x.keep B1
  have F1 := Lib.hid (Fr.of_below (F := fun b => b = gl) B1)
  generalize W.drewN n = w1 at *
  obtain ⟨q, f, lx⟩ := x1.all
  go_upto_region 3 with fail
  refine name_world ?_
  intro w2 hw2
  have x2 : Bx w2 gl 78 #[.string T', .int .i64 k] := by rw [hw2]; exact x1.set 0 _
  have F2 := Lib.hid (F1.out.set (b := gl) (o := 0) (.string T') (fun _ => rfl))
  rw [← hw2] at F2
  clear hw2 q f lx x1
  obtain ⟨q, f, lx⟩ := x2.all
  go_upto_region 4 with fail
  refine name_world ?_
  intro w3 hw3
  have x3 : Bx w3 gl 78 #[.string T', .int .i64 (k + 1)] := by rw [hw3]; exact x2.set 1 _
  have F3 := Lib.hid (F2.out.set (b := gl) (o := 1) (.int .i64 (k + 1)) (fun _ => rfl))
  rw [← hw3] at F3
  clear hw3 q f lx x2
  go_wp2_with fail
  go_ret2
  exact ⟨rfl, x3, F3.out⟩
/-- The lines of a review's text. -/
def parseP : Rv → Bool → ByteArray → List ByteArray → Option Rv
  | _, _, _, [] => none
  | σ, _, _, [l] => if l = noB then some σ else none
  | σ, ap, last, l :: m :: r => match lineO σ ap last l with
    | none => none
    | some (sh, τ) => if sh.size = 0 then parseP τ ap last (m :: r) else parseP τ true sh (m :: r)
end

section
open Go.RowKit

theorem noteO_ok {σ τ : Rv} {w1 w2 w3 w4 w5 text : ByteArray} (h : Wf σ) (ha : σ.appr = []) (e : noteO σ w1 w2 w3 w4 w5 text = some τ) : Wf τ ∧ τ.appr = [] := by
  unfold noteO at e
  split at e
  · split at e
    · cases e
    · split at e
      · cases e
      · rename_i he
        obtain rfl := Option.some.inj e
        have he' := Classical.not_not.1 he
        have ha2 : (addS σ w2 ‹Int› w4 text).appr = [] := by show delA σ.appr w2 = []; rw [ha]; rfl
        exact ⟨(h.add he').opnS ha2 (by show _ < (σ.notes ++ [_]).length; rw [List.length_append]; simp) _, ha2⟩
  · cases e
theorem replyO_ok {σ τ : Rv} {a text : ByteArray} (h : Wf σ) (ha : σ.appr = []) (e : replyO σ a text = some τ) : Wf τ ∧ τ.appr = [] := by
  unfold replyO at e
  split at e
  · cases e
  · rename_i h0
    have hk : σ.notes.length - 1 < σ.notes.length := by omega
    split at e
    · cases e
    · rename_i he
      obtain rfl := Option.some.inj e
      have he' := Classical.not_not.1 he
      have w1 := (h.opnS ha hk true).reply he'
      refine ⟨w1.opnS ha ?_ _, ha⟩
      simp only [replyS, modN, List.length_set, opnS]
      exact hk
theorem lineO_ok {σ τ : Rv} {ap : Bool} {last s sh : ByteArray} (h : Wf σ) (ha : ap = false → σ.appr = []) (e : lineO σ ap last s = some (sh, τ)) : Wf τ ∧ (if sh.size = 0 then τ.appr = [] else τ.appr.length ≤ σ.appr.length + 1) := by
  unfold lineO at e
  split at e
  · unfold apprO at e
    split at e
    · split at e
      · cases e
      · rename_i he
        have he' := Classical.not_not.1 he
        split at e
        · cases e
        · obtain ⟨e1, rfl⟩ := Prod.mk.inj (Option.some.inj e)
          rw [e1] at he' ⊢
          have hn : nameB sh = true := by
            unfold apprE at he'
            split at he'
            · cases he'
            · rename_i h1
              cases hb : nameB sh with
              | true => rfl
              | false => exact absurd (.inl hb) h1
          have := (name_sz hn).1
          refine ⟨h.approve he', ?_⟩
          rw [if_neg (by omega)]
          show (putA σ.appr sh _).length ≤ _
          unfold putA delA
          have := List.length_filter_le (fun p => !decide (p.1 = sh)) σ.appr
          rw [List.length_cons]
          omega
    · cases e
  · split at e
    · cases e
    · rename_i h1
      have hap := ha (by cases ap <;> simp at h1 ⊢)
      unfold headO at e
      split at e
      · split at e
        · rw [Option.map_eq_some_iff] at e
          obtain ⟨τ', e1, e2⟩ := e
          obtain ⟨rfl, rfl⟩ := Prod.mk.inj e2
          have := noteO_ok h hap e1
          exact ⟨this.1, by rw [if_pos (show (⟨#[]⟩ : ByteArray).size = 0 from rfl)]; exact this.2⟩
        · cases e
      · split at e
        · rw [Option.map_eq_some_iff] at e
          obtain ⟨τ', e1, e2⟩ := e
          obtain ⟨rfl, rfl⟩ := Prod.mk.inj e2
          have := replyO_ok h hap e1
          exact ⟨this.1, by rw [if_pos (show (⟨#[]⟩ : ByteArray).size = 0 from rfl)]; exact this.2⟩
        · cases e
      · cases e
theorem cutR_hit {T : ByteArray} (hT : T ≠ noB) : (spl nlB T = [T] ∧ cutR T = (T, noB, false)) ∨ ∃ l T', cutR T = (l, T', true) ∧ spl nlB T = l :: spl nlB T' ∧ l.size ≤ T.size ∧ T'.size < T.size := by
  have hsz : 0 < T.size := by
    rcases Nat.eq_zero_or_pos T.size with h | h
    · exfalso
      apply hT
      apply ByteArray.ext
      apply Array.toList_inj.1
      rw [Lib.size_eq] at h
      rw [List.eq_nil_of_length_eq_zero h]; rfl
    · exact h
  rcases Lib.indexB_cases T nlB with h | ⟨i, h, hi⟩
  · obtain ⟨h1, h2, h3⟩ := Lib.cutB_miss T nlB h
    refine .inl ⟨spl_miss h, ?_⟩
    unfold cutR
    rw [h1, h2, h3]; rfl
  · obtain ⟨h1, h2, h3⟩ := Lib.cutB_hit T nlB i h
    refine .inr ⟨_, _, ?_, spl_hit (by decide) h, extract_le _ _ _, ?_⟩
    · unfold cutR
      rw [h1, h2, h3]
    · rw [ByteArray.size_extract]
      have : nlB.size = 1 := rfl
      omega
end
end Go.Proofs.YtilninaminaadaaGreatDoor
