/- Part of a proof. No conditions. -/
import Derived.Test.YtkfbgillhhhdgaaGreatDoorAO
set_option linter.unusedSimpArgs false
set_option linter.unusedVariables false
section
namespace Go.Fly.Off
open Go
theorem wk:∀ l:List V,zho l l
 | []=>trivial
 | _::l=>⟨.inr rfl,wk l⟩
def yo (box:Loc)(pre:List V)(c:Nat):Lay:=⟨box,pre,(c,1000),(c,1001),(c,1002),(c,1003),(c,1004),(c,1005)⟩
theorem wu.reg0 {k0:K}{c:Nat}{tm:List V}{H:Heap}{box:Loc}(hb:box.2 < 1000)(hc:H box=some (.cells [.int .i64 0,.nils,.nils,.nils,.nils,.nils,.nils,.int .i64 0]))(hn:∀ i,1000≤i→H (c,i)=none)(hf:∀ l:Loc,c < l.1→H l=none)(hlo:box.1≤c) :
 wu k0 ⟨c,tm,H⟩ ⟨c+1,tm,zx H (yo box [] c) {}⟩:=by
 have b:∀ i,1000≤i→¬ box=(c,i):=fun i hi q=>by subst q;simp at hb;omega
 have b':∀ i,1000≤i→¬ (c,i)=box:=fun i hi q=>b i hi q.symm
 have s0:=fun(H1:Heap) (h1:H1 box=some (.cells [.int .i64 0,.nils,.nils,.nils,.nils,.nils,.nils,.int .i64 0])) (h2:H1 (c,1000)=none)=>wu.nilC (k0:=k0) (s:=⟨c,tm,H1⟩) (l:=(c,1000)) (l2:=box) (j:=1) 3 (fun i=>wg (el [] i)) (b 1000 (by omega)) h1 rfl h2 rfl
 simp only[List.set] at s0
 have s1:=fun(H1:Heap) (h1:H1 box=some (.cells [.int .i64 0,.msl (c,1000) 0 0,.nils,.nils,.nils,.nils,.nils,.int .i64 0])) (h2:H1 (c,1001)=none)=>wu.nilC (k0:=k0) (s:=⟨c,tm,H1⟩) (l:=(c,1001)) (l2:=box) (j:=2) 2 (fun i=>zZ (el [] i)) (b 1001 (by omega)) h1 rfl h2 rfl
 simp only[List.set] at s1
 have s2:=fun(H1:Heap) (h1:H1 box=some (.cells [.int .i64 0,.msl (c,1000) 0 0,.msl (c,1001) 0 0,.nils,.nils,.nils,.nils,.int .i64 0])) (h2:H1 (c,1002)=none)=>wu.nilC (k0:=k0) (s:=⟨c,tm,H1⟩) (l:=(c,1002)) (l2:=box) (j:=3) 5 (fun i=>zM (el [] i)) (b 1002 (by omega)) h1 rfl h2 rfl
 simp only[List.set] at s2
 have s3:=fun(H1:Heap) (h1:H1 box=some (.cells [.int .i64 0,.msl (c,1000) 0 0,.msl (c,1001) 0 0,.msl (c,1002) 0 0,.nils,.nils,.nils,.int .i64 0])) (h2:H1 (c,1003)=none)=>wu.nilC (k0:=k0) (s:=⟨c,tm,H1⟩) (l:=(c,1003)) (l2:=box) (j:=4) 3 (fun i=>wq (el [] i)) (b 1003 (by omega)) h1 rfl h2 rfl
 simp only[List.set] at s3
 have s4:=fun(H1:Heap) (h1:H1 box=some (.cells [.int .i64 0,.msl (c,1000) 0 0,.msl (c,1001) 0 0,.msl (c,1002) 0 0,.msl (c,1003) 0 0,.nils,.nils,.int .i64 0])) (h2:H1 (c,1004)=none)=>wu.nilC (k0:=k0) (s:=⟨c,tm,H1⟩) (l:=(c,1004)) (l2:=box) (j:=5) 4 (fun i=>zX (el [] i)) (b 1004 (by omega)) h1 rfl h2 rfl
 simp only[List.set] at s4
 have s5:=fun(H1:Heap) (h1:H1 box=some (.cells [.int .i64 0,.msl (c,1000) 0 0,.msl (c,1001) 0 0,.msl (c,1002) 0 0,.msl (c,1003) 0 0,.msl (c,1004) 0 0,.nils,.int .i64 0])) (h2:H1 (c,1005)=none)=>wu.nilC (k0:=k0) (s:=⟨c,tm,H1⟩) (l:=(c,1005)) (l2:=box) (j:=6) 6 (fun i=>zP (el [] i)) (b 1005 (by omega)) h1 rfl h2 rfl
 simp only[List.set] at s5
 let H0:Heap:=H
 let H1:Heap:=updH (updH H0 (c,1000) (.arr 0 3 fun i=>wg (el [] i))) box (.cells [.int .i64 0,.msl (c,1000) 0 0,.nils,.nils,.nils,.nils,.nils,.int .i64 0])
 let H2:Heap:=updH (updH H1 (c,1001) (.arr 0 2 fun i=>zZ (el [] i))) box (.cells [.int .i64 0,.msl (c,1000) 0 0,.msl (c,1001) 0 0,.nils,.nils,.nils,.nils,.int .i64 0])
 let H3:Heap:=updH (updH H2 (c,1002) (.arr 0 5 fun i=>zM (el [] i))) box (.cells [.int .i64 0,.msl (c,1000) 0 0,.msl (c,1001) 0 0,.msl (c,1002) 0 0,.nils,.nils,.nils,.int .i64 0])
 let H4:Heap:=updH (updH H3 (c,1003) (.arr 0 3 fun i=>wq (el [] i))) box (.cells [.int .i64 0,.msl (c,1000) 0 0,.msl (c,1001) 0 0,.msl (c,1002) 0 0,.msl (c,1003) 0 0,.nils,.nils,.int .i64 0])
 let H5:Heap:=updH (updH H4 (c,1004) (.arr 0 4 fun i=>zX (el [] i))) box (.cells [.int .i64 0,.msl (c,1000) 0 0,.msl (c,1001) 0 0,.msl (c,1002) 0 0,.msl (c,1003) 0 0,.msl (c,1004) 0 0,.nils,.int .i64 0])
 let H6:Heap:=updH (updH H5 (c,1005) (.arr 0 6 fun i=>zP (el [] i))) box (.cells [.int .i64 0,.msl (c,1000) 0 0,.msl (c,1001) 0 0,.msl (c,1002) 0 0,.msl (c,1003) 0 0,.msl (c,1004) 0 0,.msl (c,1005) 0 0,.int .i64 0])
 have v1:∀ j,1001≤j→H1 (c,j)=none:=fun j hj=>by
  show updH (updH H0 (c,1000) _) box _ (c,j)=none
  rw[zc (b' j (by omega)),zc fun q=>absurd (congrArg Prod.snd q) (by show ¬ j=1000;omega)]
  exact hn j (by omega)
 have v2:∀ j,1002≤j→H2 (c,j)=none:=fun j hj=>by
  show updH (updH H1 (c,1001) _) box _ (c,j)=none
  rw[zc (b' j (by omega)),zc fun q=>absurd (congrArg Prod.snd q) (by show ¬ j=1001;omega)]
  exact v1 j (by omega)
 have v3:∀ j,1003≤j→H3 (c,j)=none:=fun j hj=>by
  show updH (updH H2 (c,1002) _) box _ (c,j)=none
  rw[zc (b' j (by omega)),zc fun q=>absurd (congrArg Prod.snd q) (by show ¬ j=1002;omega)]
  exact v2 j (by omega)
 have v4:∀ j,1004≤j→H4 (c,j)=none:=fun j hj=>by
  show updH (updH H3 (c,1003) _) box _ (c,j)=none
  rw[zc (b' j (by omega)),zc fun q=>absurd (congrArg Prod.snd q) (by show ¬ j=1003;omega)]
  exact v3 j (by omega)
 have v5:∀ j,1005≤j→H5 (c,j)=none:=fun j hj=>by
  show updH (updH H4 (c,1004) _) box _ (c,j)=none
  rw[zc (b' j (by omega)),zc fun q=>absurd (congrArg Prod.snd q) (by show ¬ j=1004;omega)]
  exact v4 j (by omega)
 have v6:∀ j,1006≤j→H6 (c,j)=none:=fun j hj=>by
  show updH (updH H5 (c,1005) _) box _ (c,j)=none
  rw[zc (b' j (by omega)),zc fun q=>absurd (congrArg Prod.snd q) (by show ¬ j=1005;omega)]
  exact v5 j (by omega)
 refine wu.trans (s0 H hc (hn 1000 (by omega))) ?_
 refine wu.trans (s1 H1 (zd _ _ _) (v1 1001 (by omega))) ?_
 refine wu.trans (s2 H2 (zd _ _ _) (v2 1002 (by omega))) ?_
 refine wu.trans (s3 H3 (zd _ _ _) (v3 1003 (by omega))) ?_
 refine wu.trans (s4 H4 (zd _ _ _) (v4 1004 (by omega))) ?_
 refine wu.trans (s5 H5 (zd _ _ _) (v5 1005 (by omega))) ?_
 refine wu.go (hp:=H6) (tm:=tm) (tm':=tm) (wk tm) ?_
 refine kL (ck:=c) ⟨zd _ _ _,?_,?_,?_,?_,?_,?_⟩ ?_ hf
 ·exact⟨_,by
   show H6 (c,1000)=_
   show updH (updH H5 (c,1005) _) box _ (c,1000)=_
   rw[zc (b' 1000 (by omega)),zc (by simp)]
   show updH (updH H4 (c,1004) _) box _ (c,1000)=_
   rw[zc (b' 1000 (by omega)),zc (by simp)]
   show updH (updH H3 (c,1003) _) box _ (c,1000)=_
   rw[zc (b' 1000 (by omega)),zc (by simp)]
   show updH (updH H2 (c,1002) _) box _ (c,1000)=_
   rw[zc (b' 1000 (by omega)),zc (by simp)]
   show updH (updH H1 (c,1001) _) box _ (c,1000)=_
   rw[zc (b' 1000 (by omega)),zc (by simp)]
   show updH (updH H0 (c,1000) _) box _ (c,1000)=_
   rw[zc (b' 1000 (by omega)),zd]
   rfl,ObjLe.refl _⟩
 ·exact⟨_,by
   show H6 (c,1001)=_
   show updH (updH H5 (c,1005) _) box _ (c,1001)=_
   rw[zc (b' 1001 (by omega)),zc (by simp)]
   show updH (updH H4 (c,1004) _) box _ (c,1001)=_
   rw[zc (b' 1001 (by omega)),zc (by simp)]
   show updH (updH H3 (c,1003) _) box _ (c,1001)=_
   rw[zc (b' 1001 (by omega)),zc (by simp)]
   show updH (updH H2 (c,1002) _) box _ (c,1001)=_
   rw[zc (b' 1001 (by omega)),zc (by simp)]
   show updH (updH H1 (c,1001) _) box _ (c,1001)=_
   rw[zc (b' 1001 (by omega)),zd]
   rfl,ObjLe.refl _⟩
 ·exact⟨_,by
   show H6 (c,1002)=_
   show updH (updH H5 (c,1005) _) box _ (c,1002)=_
   rw[zc (b' 1002 (by omega)),zc (by simp)]
   show updH (updH H4 (c,1004) _) box _ (c,1002)=_
   rw[zc (b' 1002 (by omega)),zc (by simp)]
   show updH (updH H3 (c,1003) _) box _ (c,1002)=_
   rw[zc (b' 1002 (by omega)),zc (by simp)]
   show updH (updH H2 (c,1002) _) box _ (c,1002)=_
   rw[zc (b' 1002 (by omega)),zd]
   rfl,ObjLe.refl _⟩
 ·exact⟨_,by
   show H6 (c,1003)=_
   show updH (updH H5 (c,1005) _) box _ (c,1003)=_
   rw[zc (b' 1003 (by omega)),zc (by simp)]
   show updH (updH H4 (c,1004) _) box _ (c,1003)=_
   rw[zc (b' 1003 (by omega)),zc (by simp)]
   show updH (updH H3 (c,1003) _) box _ (c,1003)=_
   rw[zc (b' 1003 (by omega)),zd]
   rfl,ObjLe.refl _⟩
 ·exact⟨_,by
   show H6 (c,1004)=_
   show updH (updH H5 (c,1005) _) box _ (c,1004)=_
   rw[zc (b' 1004 (by omega)),zc (by simp)]
   show updH (updH H4 (c,1004) _) box _ (c,1004)=_
   rw[zc (b' 1004 (by omega)),zd]
   rfl,ObjLe.refl _⟩
 ·exact⟨_,by
   show H6 (c,1005)=_
   show updH (updH H5 (c,1005) _) box _ (c,1005)=_
   rw[zc (b' 1005 (by omega)),zd]
   rfl,ObjLe.refl _⟩
 ·intro l h1 h2
  simp only[Lay.locs,yo,List.mem_cons,List.not_mem_nil,or_false,not_or] at h2
  obtain⟨q0,q1,q2,q3,q4,q5,q6⟩:=h2
  show updH (updH (updH (updH (updH (updH (updH (updH (updH (updH (updH (updH H (c,1000) _) box _) (c,1001) _) box _) (c,1002) _) box _) (c,1003) _) box _) (c,1004) _) box _) (c,1005) _) box _ l=H l
  rw[zc q0,zc q6,zc q0,zc q5,zc q0,zc q4,zc q0,zc q3,zc q0,zc q2,zc q0,zc q1]
theorem wu.reg2 {k0:K}{c:Nat}{tm:List V}{H:Heap}{box:Loc}{u v:V}(hb:box.2 < 1000)(hc:H box=some (.cells [u,v,.int .i64 0,.nils,.nils,.nils,.nils,.nils,.nils,.int .i64 0]))(hn:∀ i,1000≤i→H (c,i)=none)(hf:∀ l:Loc,c < l.1→H l=none)(hlo:box.1≤c) :
 wu k0 ⟨c,tm,H⟩ ⟨c+1,tm,zx H (yo box [u,v] c) {}⟩:=by
 have b:∀ i,1000≤i→¬ box=(c,i):=fun i hi q=>by subst q;simp at hb;omega
 have b':∀ i,1000≤i→¬ (c,i)=box:=fun i hi q=>b i hi q.symm
 have s0:=fun(H1:Heap) (h1:H1 box=some (.cells [u,v,.int .i64 0,.nils,.nils,.nils,.nils,.nils,.nils,.int .i64 0])) (h2:H1 (c,1000)=none)=>wu.nilC (k0:=k0) (s:=⟨c,tm,H1⟩) (l:=(c,1000)) (l2:=box) (j:=3) 3 (fun i=>wg (el [] i)) (b 1000 (by omega)) h1 rfl h2 rfl
 simp only[List.set] at s0
 have s1:=fun(H1:Heap) (h1:H1 box=some (.cells [u,v,.int .i64 0,.msl (c,1000) 0 0,.nils,.nils,.nils,.nils,.nils,.int .i64 0])) (h2:H1 (c,1001)=none)=>wu.nilC (k0:=k0) (s:=⟨c,tm,H1⟩) (l:=(c,1001)) (l2:=box) (j:=4) 2 (fun i=>zZ (el [] i)) (b 1001 (by omega)) h1 rfl h2 rfl
 simp only[List.set] at s1
 have s2:=fun(H1:Heap) (h1:H1 box=some (.cells [u,v,.int .i64 0,.msl (c,1000) 0 0,.msl (c,1001) 0 0,.nils,.nils,.nils,.nils,.int .i64 0])) (h2:H1 (c,1002)=none)=>wu.nilC (k0:=k0) (s:=⟨c,tm,H1⟩) (l:=(c,1002)) (l2:=box) (j:=5) 5 (fun i=>zM (el [] i)) (b 1002 (by omega)) h1 rfl h2 rfl
 simp only[List.set] at s2
 have s3:=fun(H1:Heap) (h1:H1 box=some (.cells [u,v,.int .i64 0,.msl (c,1000) 0 0,.msl (c,1001) 0 0,.msl (c,1002) 0 0,.nils,.nils,.nils,.int .i64 0])) (h2:H1 (c,1003)=none)=>wu.nilC (k0:=k0) (s:=⟨c,tm,H1⟩) (l:=(c,1003)) (l2:=box) (j:=6) 3 (fun i=>wq (el [] i)) (b 1003 (by omega)) h1 rfl h2 rfl
 simp only[List.set] at s3
 have s4:=fun(H1:Heap) (h1:H1 box=some (.cells [u,v,.int .i64 0,.msl (c,1000) 0 0,.msl (c,1001) 0 0,.msl (c,1002) 0 0,.msl (c,1003) 0 0,.nils,.nils,.int .i64 0])) (h2:H1 (c,1004)=none)=>wu.nilC (k0:=k0) (s:=⟨c,tm,H1⟩) (l:=(c,1004)) (l2:=box) (j:=7) 4 (fun i=>zX (el [] i)) (b 1004 (by omega)) h1 rfl h2 rfl
 simp only[List.set] at s4
 have s5:=fun(H1:Heap) (h1:H1 box=some (.cells [u,v,.int .i64 0,.msl (c,1000) 0 0,.msl (c,1001) 0 0,.msl (c,1002) 0 0,.msl (c,1003) 0 0,.msl (c,1004) 0 0,.nils,.int .i64 0])) (h2:H1 (c,1005)=none)=>wu.nilC (k0:=k0) (s:=⟨c,tm,H1⟩) (l:=(c,1005)) (l2:=box) (j:=8) 6 (fun i=>zP (el [] i)) (b 1005 (by omega)) h1 rfl h2 rfl
 simp only[List.set] at s5
 let H0:Heap:=H
 let H1:Heap:=updH (updH H0 (c,1000) (.arr 0 3 fun i=>wg (el [] i))) box (.cells [u,v,.int .i64 0,.msl (c,1000) 0 0,.nils,.nils,.nils,.nils,.nils,.int .i64 0])
 let H2:Heap:=updH (updH H1 (c,1001) (.arr 0 2 fun i=>zZ (el [] i))) box (.cells [u,v,.int .i64 0,.msl (c,1000) 0 0,.msl (c,1001) 0 0,.nils,.nils,.nils,.nils,.int .i64 0])
 let H3:Heap:=updH (updH H2 (c,1002) (.arr 0 5 fun i=>zM (el [] i))) box (.cells [u,v,.int .i64 0,.msl (c,1000) 0 0,.msl (c,1001) 0 0,.msl (c,1002) 0 0,.nils,.nils,.nils,.int .i64 0])
 let H4:Heap:=updH (updH H3 (c,1003) (.arr 0 3 fun i=>wq (el [] i))) box (.cells [u,v,.int .i64 0,.msl (c,1000) 0 0,.msl (c,1001) 0 0,.msl (c,1002) 0 0,.msl (c,1003) 0 0,.nils,.nils,.int .i64 0])
 let H5:Heap:=updH (updH H4 (c,1004) (.arr 0 4 fun i=>zX (el [] i))) box (.cells [u,v,.int .i64 0,.msl (c,1000) 0 0,.msl (c,1001) 0 0,.msl (c,1002) 0 0,.msl (c,1003) 0 0,.msl (c,1004) 0 0,.nils,.int .i64 0])
 let H6:Heap:=updH (updH H5 (c,1005) (.arr 0 6 fun i=>zP (el [] i))) box (.cells [u,v,.int .i64 0,.msl (c,1000) 0 0,.msl (c,1001) 0 0,.msl (c,1002) 0 0,.msl (c,1003) 0 0,.msl (c,1004) 0 0,.msl (c,1005) 0 0,.int .i64 0])
 have v1:∀ j,1001≤j→H1 (c,j)=none:=fun j hj=>by
  show updH (updH H0 (c,1000) _) box _ (c,j)=none
  rw[zc (b' j (by omega)),zc fun q=>absurd (congrArg Prod.snd q) (by show ¬ j=1000;omega)]
  exact hn j (by omega)
 have v2:∀ j,1002≤j→H2 (c,j)=none:=fun j hj=>by
  show updH (updH H1 (c,1001) _) box _ (c,j)=none
  rw[zc (b' j (by omega)),zc fun q=>absurd (congrArg Prod.snd q) (by show ¬ j=1001;omega)]
  exact v1 j (by omega)
 have v3:∀ j,1003≤j→H3 (c,j)=none:=fun j hj=>by
  show updH (updH H2 (c,1002) _) box _ (c,j)=none
  rw[zc (b' j (by omega)),zc fun q=>absurd (congrArg Prod.snd q) (by show ¬ j=1002;omega)]
  exact v2 j (by omega)
 have v4:∀ j,1004≤j→H4 (c,j)=none:=fun j hj=>by
  show updH (updH H3 (c,1003) _) box _ (c,j)=none
  rw[zc (b' j (by omega)),zc fun q=>absurd (congrArg Prod.snd q) (by show ¬ j=1003;omega)]
  exact v3 j (by omega)
 have v5:∀ j,1005≤j→H5 (c,j)=none:=fun j hj=>by
  show updH (updH H4 (c,1004) _) box _ (c,j)=none
  rw[zc (b' j (by omega)),zc fun q=>absurd (congrArg Prod.snd q) (by show ¬ j=1004;omega)]
  exact v4 j (by omega)
 have v6:∀ j,1006≤j→H6 (c,j)=none:=fun j hj=>by
  show updH (updH H5 (c,1005) _) box _ (c,j)=none
  rw[zc (b' j (by omega)),zc fun q=>absurd (congrArg Prod.snd q) (by show ¬ j=1005;omega)]
  exact v5 j (by omega)
 refine wu.trans (s0 H hc (hn 1000 (by omega))) ?_
 refine wu.trans (s1 H1 (zd _ _ _) (v1 1001 (by omega))) ?_
 refine wu.trans (s2 H2 (zd _ _ _) (v2 1002 (by omega))) ?_
 refine wu.trans (s3 H3 (zd _ _ _) (v3 1003 (by omega))) ?_
 refine wu.trans (s4 H4 (zd _ _ _) (v4 1004 (by omega))) ?_
 refine wu.trans (s5 H5 (zd _ _ _) (v5 1005 (by omega))) ?_
 refine wu.go (hp:=H6) (tm:=tm) (tm':=tm) (wk tm) ?_
 refine kL (ck:=c) ⟨zd _ _ _,?_,?_,?_,?_,?_,?_⟩ ?_ hf
 ·exact⟨_,by
   show H6 (c,1000)=_
   show updH (updH H5 (c,1005) _) box _ (c,1000)=_
   rw[zc (b' 1000 (by omega)),zc (by simp)]
   show updH (updH H4 (c,1004) _) box _ (c,1000)=_
   rw[zc (b' 1000 (by omega)),zc (by simp)]
   show updH (updH H3 (c,1003) _) box _ (c,1000)=_
   rw[zc (b' 1000 (by omega)),zc (by simp)]
   show updH (updH H2 (c,1002) _) box _ (c,1000)=_
   rw[zc (b' 1000 (by omega)),zc (by simp)]
   show updH (updH H1 (c,1001) _) box _ (c,1000)=_
   rw[zc (b' 1000 (by omega)),zc (by simp)]
   show updH (updH H0 (c,1000) _) box _ (c,1000)=_
   rw[zc (b' 1000 (by omega)),zd]
   rfl,ObjLe.refl _⟩
 ·exact⟨_,by
   show H6 (c,1001)=_
   show updH (updH H5 (c,1005) _) box _ (c,1001)=_
   rw[zc (b' 1001 (by omega)),zc (by simp)]
   show updH (updH H4 (c,1004) _) box _ (c,1001)=_
   rw[zc (b' 1001 (by omega)),zc (by simp)]
   show updH (updH H3 (c,1003) _) box _ (c,1001)=_
   rw[zc (b' 1001 (by omega)),zc (by simp)]
   show updH (updH H2 (c,1002) _) box _ (c,1001)=_
   rw[zc (b' 1001 (by omega)),zc (by simp)]
   show updH (updH H1 (c,1001) _) box _ (c,1001)=_
   rw[zc (b' 1001 (by omega)),zd]
   rfl,ObjLe.refl _⟩
 ·exact⟨_,by
   show H6 (c,1002)=_
   show updH (updH H5 (c,1005) _) box _ (c,1002)=_
   rw[zc (b' 1002 (by omega)),zc (by simp)]
   show updH (updH H4 (c,1004) _) box _ (c,1002)=_
   rw[zc (b' 1002 (by omega)),zc (by simp)]
   show updH (updH H3 (c,1003) _) box _ (c,1002)=_
   rw[zc (b' 1002 (by omega)),zc (by simp)]
   show updH (updH H2 (c,1002) _) box _ (c,1002)=_
   rw[zc (b' 1002 (by omega)),zd]
   rfl,ObjLe.refl _⟩
 ·exact⟨_,by
   show H6 (c,1003)=_
   show updH (updH H5 (c,1005) _) box _ (c,1003)=_
   rw[zc (b' 1003 (by omega)),zc (by simp)]
   show updH (updH H4 (c,1004) _) box _ (c,1003)=_
   rw[zc (b' 1003 (by omega)),zc (by simp)]
   show updH (updH H3 (c,1003) _) box _ (c,1003)=_
   rw[zc (b' 1003 (by omega)),zd]
   rfl,ObjLe.refl _⟩
 ·exact⟨_,by
   show H6 (c,1004)=_
   show updH (updH H5 (c,1005) _) box _ (c,1004)=_
   rw[zc (b' 1004 (by omega)),zc (by simp)]
   show updH (updH H4 (c,1004) _) box _ (c,1004)=_
   rw[zc (b' 1004 (by omega)),zd]
   rfl,ObjLe.refl _⟩
 ·exact⟨_,by
   show H6 (c,1005)=_
   show updH (updH H5 (c,1005) _) box _ (c,1005)=_
   rw[zc (b' 1005 (by omega)),zd]
   rfl,ObjLe.refl _⟩
 ·intro l h1 h2
  simp only[Lay.locs,yo,List.mem_cons,List.not_mem_nil,or_false,not_or] at h2
  obtain⟨q0,q1,q2,q3,q4,q5,q6⟩:=h2
  show updH (updH (updH (updH (updH (updH (updH (updH (updH (updH (updH (updH H (c,1000) _) box _) (c,1001) _) box _) (c,1002) _) box _) (c,1003) _) box _) (c,1004) _) box _) (c,1005) _) box _ l=H l
  rw[zc q0,zc q6,zc q0,zc q5,zc q0,zc q4,zc q0,zc q3,zc q0,zc q2,zc q0,zc q1]
theorem zbG {box:Loc}{pre:List V}{c:Nat}(hb:box.2 < 1000)(h0:0 < box.1)(hlo:box.1≤c)(hp:pre=[]∨∃ a b,pre=[a,b]):LayOk (yo box pre c) c:=by
 have b:∀ i,1000≤i→¬ box=(c,i):=fun i hi q=>by subst q;simp at hb;omega
 refine⟨?_,?_,?_,hp⟩
 ·simp only[Lay.locs,yo,List.nodup_cons,List.mem_cons,List.not_mem_nil,or_false,not_or]
  refine⟨⟨b _ (by omega),b _ (by omega),b _ (by omega),b _ (by omega),b _ (by omega),b _ (by omega)⟩,?_⟩
  simp
 ·intro l hl
  simp only[Lay.locs,yo,List.mem_cons,List.not_mem_nil,or_false] at hl
  rcases hl with rfl | rfl | rfl | rfl | rfl | rfl | rfl
  ·exact h0
  all_goals (show 0 < c;omega)
 ·intro l hl
  simp only[Lay.locs,yo,List.mem_cons,List.not_mem_nil,or_false] at hl
  rcases hl with rfl | rfl | rfl | rfl | rfl | rfl | rfl
  ·exact hlo
  all_goals exact Nat.le_refl c
theorem put_mono {S H:Heap}{y:Lay}{r:Reg}(h:zy S H):zy (zx S y r) (zx H y r):=by
 intro l o ho
 by_cases hl:l∈y.locs
 ·refine⟨o,?_,ObjLe.refl o⟩
  rw[← ho]
  simp only[Lay.locs,List.mem_cons,List.not_mem_nil,or_false] at hl
  unfold zx
  split
  ·rfl
  split
  ·rfl
  split
  ·rfl
  split
  ·rfl
  split
  ·rfl
  split
  ·rfl
  split
  ·rfl
  ·simp_all
 ·rw[z8 hl] at ho ⊢
  exact h l o ho
theorem zlf {H H':Heap}{y:Lay}{r:Reg}{l:Loc}(hl:l∈y.locs):zx H y r l=zx H' y r l:=by
 simp only[Lay.locs,List.mem_cons,List.not_mem_nil,or_false] at hl
 unfold zx
 split
 ·rfl
 split
 ·rfl
 split
 ·rfl
 split
 ·rfl
 split
 ·rfl
 split
 ·rfl
 split
 ·rfl
 ·simp_all
theorem Lay.mem (y:Lay):y.box∈y.locs∧y.n0∈y.locs∧y.n1∈y.locs∧y.n2∈y.locs∧y.n3∈y.locs∧y.n4∈y.locs∧y.n5∈y.locs:=by simp[Lay.locs]
theorem RegAt.upd {H S:Heap}{y:Lay}{r:Reg}(h:RegAt H y r)(hs:∀ l∈y.locs,S l=H l):RegAt S y r:=by
 obtain⟨m0,m1,m2,m3,m4,m5,m6⟩:=y.mem
 exact⟨(hs _ m0).trans h.box,(hs _ m1).trans h.types,(hs _ m2).trans h.houses,(hs _ m3).trans h.flights,(hs _ m4).trans h.maps,(hs _ m5).trans h.offers,(hs _ m6).trans h.complaints⟩
theorem zis {S H:Heap}{L:Loc}(hn:H L=none)(h:∀ l,l≠L→S l=H l):zy S H:=fun l o ho=>by
 refine⟨o,?_,ObjLe.refl o⟩
 rw[h l (by rintro rfl;rw[hn] at ho;cases ho)]
 exact ho
structure HAt (H:Heap) (y:Lay) (ne nc:Loc) (h:Hist):Prop where
 reg:RegAt H y h.now
 pre:y.pre=[.msl ne 0 h.events.length,.msl nc 0 h.counted.length]
 ev:H ne=some (.arr h.events.length 5 fun i=>encEv (el h.events i))
 ct:H nc=some (.arr h.counted.length 5 fun i=>encEv (el h.counted i))
structure HLayOk (y:Lay) (ne nc:Loc) (ck:Nat):Prop where
 lay:LayOk y ck
 ne_nc:ne≠nc
 ne_out:ne∉y.locs
 nc_out:nc∉y.locs
 ne_lo:ne.1≤ck
 nc_lo:nc.1≤ck
theorem jY {α:Type}[Inhabited α]{l:List α}{i:Nat}(h:i < l.length - 1):el l.dropLast i=el l i:=by
 rw[yp _ (by rw[List.length_dropLast];exact h),yp _ (by omega),List.getElem_dropLast]
def zhL (H:Heap)(y:Lay)(ne nc:Loc)(ev ct:List Ev)(r:Reg):Heap :=
 updH (updH (zx H { y with pre:=[.msl ne 0 ev.length,.msl nc 0 ct.length] } r) ne (.arr ev.length 5 fun i=>encEv (el ev i))) nc (.arr ct.length 5 fun i=>encEv (el ct i))
theorem LayOk.withPre {y:Lay}{ck:Nat}(h:LayOk y ck)(a b:V):LayOk { y with pre:=[a,b] } ck:=⟨h.nd,h.lo,h.hi,.inr ⟨a,b,rfl⟩⟩
theorem zlg {H:Heap}{y:Lay}{ne nc:Loc}{ck:Nat}(hy:HLayOk y ne nc ck)(ev ct:List Ev)(r:Reg):HAt (zhL H y ne nc ev ct r) { y with pre:=[.msl ne 0 ev.length,.msl nc 0 ct.length] } ne nc ⟨ev,ct,r⟩ :=
 ⟨(wA (H:=H) (hy.lay.withPre (.msl ne 0 ev.length) (.msl nc 0 ct.length)) r).upd fun l hl=>by
  show updH (updH _ _ _) _ _ _=_
  rw[zc (by rintro rfl;exact hy.nc_out hl),zc (by rintro rfl;exact hy.ne_out hl)],rfl,
   (zc hy.ne_nc).trans (zd _ _ _),zd _ _ _⟩
theorem hist_le {S H:Heap}{y:Lay}{ne nc:Loc}{ck:Nat}{h:Hist}{ev ct:List Ev}(hat:HAt H y ne nc h)(hy:HLayOk y ne nc ck)(hf:∀ l:Loc,ck < l.1→H l=none)
 (hb:S y.box=some (.cells ([.msl ne 0 ev.length,.msl nc 0 ct.length]++regCells y h.now))) (he:∃ o,S ne=some o∧ObjLe o (.arr ev.length 5 fun i=>encEv (el ev i))) (hc:∃ o,S nc=some o∧ObjLe o (.arr ct.length 5 fun i=>encEv (el ct i)))
 (hs:Chg S H ck [y.box,ne,nc]):zy S (zhL H y ne nc ev ct h.now):=by
 intro l o ho
 unfold zhL at ho
 by_cases q1:l=nc
 ·subst q1
  rw[zd] at ho
  cases ho
  exact hc
 rw[zc q1] at ho
 by_cases q2:l=ne
 ·subst q2
  rw[zd] at ho
  cases ho
  exact he
 rw[zc q2] at ho
 have hp:=wA (H:=H) (hy.lay.withPre (.msl ne 0 ev.length) (.msl nc 0 ct.length)) h.now
 have nd:=hy.lay.nd
 simp only[Lay.locs,List.nodup_cons,List.mem_cons,List.not_mem_nil,or_false,not_or] at nd
 obtain⟨⟨a1,a2,a3,a4,a5,a6⟩,-⟩:=nd
 have hs':∀ l,l∈y.locs→¬ l=y.box→S l=H l:=fun l hl hb=>hs l (hy.lay.hi _ hl) (by
  simp only[List.mem_cons,List.not_mem_nil,or_false,not_or]
  exact⟨hb,fun q=>hy.ne_out (q ▸ hl),fun q=>hy.nc_out (q ▸ hl)⟩)
 obtain⟨m0,m1,m2,m3,m4,m5,m6⟩:=y.mem
 by_cases hl:l∈y.locs
 ·simp only[Lay.locs,List.mem_cons,List.not_mem_nil,or_false] at hl
  rcases hl with rfl | rfl | rfl | rfl | rfl | rfl | rfl
  ·rw[hp.box] at ho;cases ho;exact⟨_,hb,ObjLe.refl _⟩
  ·rw[hp.types] at ho;cases ho;exact⟨_,(hs' _ m1 (Ne.symm a1)).trans hat.reg.types,ObjLe.refl _⟩
  ·rw[hp.houses] at ho;cases ho;exact⟨_,(hs' _ m2 (Ne.symm a2)).trans hat.reg.houses,ObjLe.refl _⟩
  ·rw[hp.flights] at ho;cases ho;exact⟨_,(hs' _ m3 (Ne.symm a3)).trans hat.reg.flights,ObjLe.refl _⟩
  ·rw[hp.maps] at ho;cases ho;exact⟨_,(hs' _ m4 (Ne.symm a4)).trans hat.reg.maps,ObjLe.refl _⟩
  ·rw[hp.offers] at ho;cases ho;exact⟨_,(hs' _ m5 (Ne.symm a5)).trans hat.reg.offers,ObjLe.refl _⟩
  ·rw[hp.complaints] at ho;cases ho;exact⟨_,(hs' _ m6 (Ne.symm a6)).trans hat.reg.complaints,ObjLe.refl _⟩
 ·replace ho:=(z8 (H:=H) (y:={ y with pre:=[.msl ne 0 ev.length,.msl nc 0 ct.length] }) (r:=h.now) hl).symm.trans ho
  have hlc:l.1≤ck:=by
   apply Classical.byContradiction
   intro q
   rw[hf l (by omega)] at ho
   cases ho
  exact⟨o,(hs l hlc (by
   simp only[List.mem_cons,List.not_mem_nil,or_false,not_or]
   exact⟨fun q=>hl (q ▸ m0),q2,q1⟩)).trans ho,ObjLe.refl o⟩
theorem zbM {H:Heap}{y:Lay}{ne nc:Loc}{ck:Nat}(hy:HLayOk y ne nc ck)(hf:∀ l:Loc,ck < l.1→H l=none){ev ct:List Ev}{r:Reg}{l:Loc}(hl:ck < l.1):zhL H y ne nc ev ct r l=none:=by
 unfold zhL
 rw[zc (by rintro rfl;have:=hy.nc_lo;omega),zc (by rintro rfl;have:=hy.ne_lo;omega),z8 (fun q=>by have:=hy.lay.hi l q;omega),hf l hl]
theorem HLayOk.mono {y:Lay}{ne nc:Loc}{ck ck':Nat}(h:HLayOk y ne nc ck)(hc:ck≤ck'):HLayOk y ne nc ck':=⟨h.lay.mono hc,h.ne_nc,h.ne_out,h.nc_out,Nat.le_trans h.ne_lo hc,Nat.le_trans h.nc_lo hc⟩
theorem HLayOk.withPre {y:Lay}{ne nc:Loc}{ck:Nat}(h:HLayOk y ne nc ck)(a b:V):HLayOk { y with pre:=[a,b] } ne nc ck:=⟨h.lay.withPre a b,h.ne_nc,h.ne_out,h.nc_out,h.ne_lo,h.nc_lo⟩
theorem hist_le2 {S H:Heap}{y:Lay}{ne nc:Loc}{ck:Nat}{r:Reg}{ev ct:List Ev}(hat:RegAt H y r)(hl0:LayOk y ck)(hne:ne∉y.locs)(hnc:nc∉y.locs)
 (hb:S y.box=some (.cells ([.msl ne 0 ev.length,.msl nc 0 ct.length]++regCells y r))) (he:∃ o,S ne=some o∧ObjLe o (.arr ev.length 5 fun i=>encEv (el ev i))) (hc:∃ o,S nc=some o∧ObjLe o (.arr ct.length 5 fun i=>encEv (el ct i)))
 (hs:∀ l o,H l=some o→l∉[y.box,ne,nc]→S l=some o):zy S (zhL H y ne nc ev ct r):=by
 intro l o ho
 unfold zhL at ho
 by_cases q1:l=nc
 ·subst q1
  rw[zd] at ho
  cases ho
  exact hc
 rw[zc q1] at ho
 by_cases q2:l=ne
 ·subst q2
  rw[zd] at ho
  cases ho
  exact he
 rw[zc q2] at ho
 have hp:=wA (H:=H) (hl0.withPre (.msl ne 0 ev.length) (.msl nc 0 ct.length)) r
 have nd:=hl0.nd
 simp only[Lay.locs,List.nodup_cons,List.mem_cons,List.not_mem_nil,or_false,not_or] at nd
 obtain⟨⟨a1,a2,a3,a4,a5,a6⟩,-⟩:=nd
 have hs':∀ l o,l∈y.locs→¬ l=y.box→H l=some o→S l=some o:=fun l o hl hb ho=>hs l o ho (by
  simp only[List.mem_cons,List.not_mem_nil,or_false,not_or]
  exact⟨hb,fun q=>hne (q ▸ hl),fun q=>hnc (q ▸ hl)⟩)
 obtain⟨m0,m1,m2,m3,m4,m5,m6⟩:=y.mem
 by_cases hl:l∈y.locs
 ·simp only[Lay.locs,List.mem_cons,List.not_mem_nil,or_false] at hl
  rcases hl with rfl | rfl | rfl | rfl | rfl | rfl | rfl
  ·rw[hp.box] at ho;cases ho;exact⟨_,hb,ObjLe.refl _⟩
  ·rw[hp.types] at ho;cases ho;exact⟨_,hs' _ _ m1 (Ne.symm a1) hat.types,ObjLe.refl _⟩
  ·rw[hp.houses] at ho;cases ho;exact⟨_,hs' _ _ m2 (Ne.symm a2) hat.houses,ObjLe.refl _⟩
  ·rw[hp.flights] at ho;cases ho;exact⟨_,hs' _ _ m3 (Ne.symm a3) hat.flights,ObjLe.refl _⟩
  ·rw[hp.maps] at ho;cases ho;exact⟨_,hs' _ _ m4 (Ne.symm a4) hat.maps,ObjLe.refl _⟩
  ·rw[hp.offers] at ho;cases ho;exact⟨_,hs' _ _ m5 (Ne.symm a5) hat.offers,ObjLe.refl _⟩
  ·rw[hp.complaints] at ho;cases ho;exact⟨_,hs' _ _ m6 (Ne.symm a6) hat.complaints,ObjLe.refl _⟩
 ·replace ho:=(z8 (H:=H) (y:={ y with pre:=[.msl ne 0 ev.length,.msl nc 0 ct.length] }) (r:=r) hl).symm.trans ho
  exact⟨o,hs l o ho (by
   simp only[List.mem_cons,List.not_mem_nil,or_false,not_or]
   exact⟨fun q=>hl (q ▸ m0),q2,q1⟩),ObjLe.refl o⟩
theorem undo_at {H:Heap}{y y2:Lay}{ne nc:Loc}{c ck:Nat}{ev ct:List Ev}{r:Reg}(hy:HLayOk y ne nc c)(hc:c≤ck)(h2:LayOk y2 ck)(hnew:∀ l∈y2.locs,c < l.1)
 (he:H ne=some (.arr ev.length 5 fun i=>encEv (el ev i))) (ht:H nc=some (.arr ct.length 5 fun i=>encEv (el ct i))) :
 HAt (updH (zx H y2 r) y.box (.cells ([.msl ne 0 ev.length,.msl nc 0 ct.length]++regCells y2 r))) ⟨y.box,[.msl ne 0 ev.length,.msl nc 0 ct.length],y2.n0,y2.n1,y2.n2,y2.n3,y2.n4,y2.n5⟩ ne nc ⟨ev,ct,r⟩ ∧
 HLayOk ⟨y.box,[.msl ne 0 ev.length,.msl nc 0 ct.length],y2.n0,y2.n1,y2.n2,y2.n3,y2.n4,y2.n5⟩ ne nc ck:=by
 have hp:=wA (H:=H) h2 r
 obtain⟨m0,m1,m2,m3,m4,m5,m6⟩:=y2.mem
 have hb:=hy.lay.hi _ y.mem.1
 have nb:∀ l∈y2.locs,l≠y.box:=fun l hl q=>by have:=hnew l hl;rw[q] at this;omega
 have ob:∀ l:Loc,l.1≤c→l∉y2.locs:=fun l hl q=>by have:=hnew l q;omega
 have a1:¬ ne=y.box:=fun q=>hy.ne_out (q ▸ y.mem.1)
 have a2:¬ nc=y.box:=fun q=>hy.nc_out (q ▸ y.mem.1)
 have nd:=h2.nd
 refine⟨⟨⟨zd _ _ _,(zc (nb _ m1)).trans hp.types,(zc (nb _ m2)).trans hp.houses,(zc (nb _ m3)).trans hp.flights,(zc (nb _ m4)).trans hp.maps,(zc (nb _ m5)).trans hp.offers,(zc (nb _ m6)).trans hp.complaints⟩,rfl,
  (zc a1).trans ((z8 (ob _ hy.ne_lo)).trans he),(zc a2).trans ((z8 (ob _ hy.nc_lo)).trans ht)⟩,⟨?_,?_,?_,.inr ⟨_,_,rfl⟩⟩,hy.ne_nc,?_,?_,Nat.le_trans hy.ne_lo hc,Nat.le_trans hy.nc_lo hc⟩
 ·simp only[Lay.locs,List.nodup_cons] at nd ⊢
  refine⟨?_,nd.2⟩
  simp only[List.mem_cons,List.not_mem_nil,or_false,not_or]
  exact⟨Ne.symm (nb _ m1),Ne.symm (nb _ m2),Ne.symm (nb _ m3),Ne.symm (nb _ m4),Ne.symm (nb _ m5),Ne.symm (nb _ m6)⟩
 ·intro l hl
  simp only[Lay.locs,List.mem_cons,List.not_mem_nil,or_false] at hl
  rcases hl with rfl | rfl | rfl | rfl | rfl | rfl | rfl
  ·exact hy.lay.lo _ y.mem.1
  all_goals (apply h2.lo;assumption)
 ·intro l hl
  simp only[Lay.locs,List.mem_cons,List.not_mem_nil,or_false] at hl
  rcases hl with rfl | rfl | rfl | rfl | rfl | rfl | rfl
  ·exact Nat.le_trans hb hc
  all_goals (apply h2.hi;assumption)
 ·simp only[Lay.locs,List.mem_cons,List.not_mem_nil,or_false,not_or]
  have:=ob _ hy.ne_lo
  exact⟨a1,fun q=>this (q ▸ m1),fun q=>this (q ▸ m2),fun q=>this (q ▸ m3),fun q=>this (q ▸ m4),fun q=>this (q ▸ m5),fun q=>this (q ▸ m6)⟩
 ·simp only[Lay.locs,List.mem_cons,List.not_mem_nil,or_false,not_or]
  have:=ob _ hy.nc_lo
  exact⟨a2,fun q=>this (q ▸ m1),fun q=>this (q ▸ m2),fun q=>this (q ▸ m3),fun q=>this (q ▸ m4),fun q=>this (q ▸ m5),fun q=>this (q ▸ m6)⟩
theorem za3 {H:Heap}{y:Lay}{ne nc:Loc}{h:Hist}(n:Nat)(hat:HAt H y ne nc h):frz (n+3) H (.ptr y.box 0)=.cptr (zz h):=by
 have hn0:H y.n0=some (.arr h.now.types.length 3 fun i=>wg (el h.now.types i)):=hat.reg.types
 have hn1:H y.n1=some (.arr h.now.houses.length 2 fun i=>zZ (el h.now.houses i)):=hat.reg.houses
 have hn2:H y.n2=some (.arr h.now.flights.length 5 fun i=>zM (el h.now.flights i)):=hat.reg.flights
 have hn3:H y.n3=some (.arr h.now.maps.length 3 fun i=>wq (el h.now.maps i)):=hat.reg.maps
 have hn4:H y.n4=some (.arr h.now.offers.length 4 fun i=>zX (el h.now.offers i)):=hat.reg.offers
 have hn5:H y.n5=some (.arr h.now.complaints.length 6 fun i=>zP (el h.now.complaints i)):=hat.reg.complaints
 have he:=hat.ev
 have hc:=hat.ct
 have hb:=hat.reg.box
 rw[hat.pre] at hb
 rw[jh,hb]
 simp only[regCells,List.cons_append,List.nil_append,go_sem,↓zj,hn0,hn1,hn2,hn3,hn4,hn5,he,hc,Nat.zero_add]
 rfl
theorem HAt.upd {H S:Heap}{y:Lay}{ne nc:Loc}{h:Hist}(hat:HAt H y ne nc h)(hs:∀ q,q∈y.locs∨q=ne∨q=nc→S q=H q):HAt S y ne nc h :=
 ⟨hat.reg.upd fun l hl=>hs l (.inl hl),hat.pre,(hs ne (.inr (.inl rfl))).trans hat.ev,(hs nc (.inr (.inr rfl))).trans hat.ct⟩
theorem wu.hist {c:Nat}{tm:List V}{H:Heap}{box:Loc}(hb:box.2 < 900)(hc:H box=some (.cells [.nils,.nils,.int .i64 0,.nils,.nils,.nils,.nils,.nils,.nils,.int .i64 0]))(hn:∀ i,900≤i→H (c,i)=none)(hf:∀ l:Loc,c < l.1→H l=none)(hlo:box.1≤c)(h0:0 < box.1) :
 ∃ S y,(∀ k0:K,wu k0 ⟨c,tm,H⟩ ⟨c+1,tm,S⟩)∧y.box=box∧HAt S y (c,900) (c,901) {}∧HLayOk y (c,900) (c,901) c∧∀ l:Loc,c < l.1→S l=none:=by
 have b:∀ i,900≤i→¬ box=(c,i):=fun i hi q=>by subst q;simp at hb;omega
 have b':∀ i,900≤i→¬ (c,i)=box:=fun i hi q=>b i hi q.symm
 have s0:=fun k0=>wu.nilC (k0:=k0) (s:=⟨c,tm,H⟩) (l:=(c,900)) (l2:=box) (j:=0) 5 (fun i=>encEv (el [] i)) (b 900 (by omega)) hc rfl (hn 900 (by omega)) rfl
 simp only[List.set] at s0
 let H1:Heap:=updH (updH H (c,900) (.arr 0 5 fun i=>encEv (el [] i))) box (.cells [.msl (c,900) 0 0,.nils,.int .i64 0,.nils,.nils,.nils,.nils,.nils,.nils,.int .i64 0])
 have v1:∀ j,901≤j→H1 (c,j)=none:=fun j hj=>by
  show updH (updH H (c,900) _) box _ (c,j)=none
  rw[zc (b' j (by omega)),zc fun q=>absurd (congrArg Prod.snd q) (by show ¬ j=900;omega)]
  exact hn j (by omega)
 have s1:=fun k0=>wu.nilC (k0:=k0) (s:=⟨c,tm,H1⟩) (l:=(c,901)) (l2:=box) (j:=1) 5 (fun i=>encEv (el [] i)) (b 901 (by omega)) (zd _ _ _) rfl (v1 901 (by omega)) rfl
 simp only[List.set] at s1
 let H2:Heap:=updH (updH H1 (c,901) (.arr 0 5 fun i=>encEv (el [] i))) box (.cells [.msl (c,900) 0 0,.msl (c,901) 0 0,.int .i64 0,.nils,.nils,.nils,.nils,.nils,.nils,.int .i64 0])
 have v2:∀ j,902≤j→H2 (c,j)=none:=fun j hj=>by
  show updH (updH H1 (c,901) _) box _ (c,j)=none
  rw[zc (b' j (by omega)),zc fun q=>absurd (congrArg Prod.snd q) (by show ¬ j=901;omega)]
  exact v1 j (by omega)
 have hl:∀ l:Loc,c < l.1→∀ d,¬ l=(c,d):=fun l h d q=>by subst q;exact Nat.lt_irrefl _ h
 have f2:∀ l:Loc,c < l.1→H2 l=none:=fun l h=>by
  have q:¬ l=box:=by rintro rfl;omega
  show updH (updH (updH (updH H (c,900) _) box _) (c,901) _) box _ l=none
  rw[zc q,zc (hl l h _),zc q,zc (hl l h _),hf l h]
 have hy:LayOk (yo box [.msl (c,900) 0 0,.msl (c,901) 0 0] c) c:=zbG (by omega) h0 hlo (.inr ⟨_,_,rfl⟩)
 have out:∀ i,i < 1000→900≤i→(c,i)∉(yo box [.msl (c,900) 0 0,.msl (c,901) 0 0] c).locs:=fun i h1 h2 q=>by
  simp only[Lay.locs,yo,List.mem_cons,List.not_mem_nil,or_false,Prod.mk.injEq,true_and] at q
  rcases q with q | q | q | q | q | q | q
  ·exact b' i h2 q
  all_goals omega
 refine⟨zx H2 (yo box [.msl (c,900) 0 0,.msl (c,901) 0 0] c) {},yo box [.msl (c,900) 0 0,.msl (c,901) 0 0] c,fun k0=>wu.trans (s0 k0) (wu.trans (s1 k0) (wu.reg2 (by omega) (zd _ _ _) (fun i hi=>v2 i (by omega)) f2 hlo)),rfl,⟨wA hy {},rfl,?_,?_⟩,⟨hy,by simp,out 900 (by omega) (by omega),out 901 (by omega) (by omega),Nat.le_refl _,Nat.le_refl _⟩,fun l h=>?_⟩
 ·rw[z8 (out 900 (by omega) (by omega))]
  show updH (updH (updH (updH H (c,900) _) box _) (c,901) _) box _ (c,900)=_
  rw[zc (b' 900 (by omega)),zc (by simp),zc (b' 900 (by omega)),zd]
  rfl
 ·rw[z8 (out 901 (by omega) (by omega))]
  show updH (updH _ (c,901) _) box _ (c,901)=_
  rw[zc (b' 901 (by omega)),zd]
  rfl
 ·rw[z8 (fun q=>by have:=hy.hi _ q;omega),f2 l h]
theorem inQ_ret3 {X:Cx}{a b c:Tmp}{Kn:V→St→Prop}{s:St}:inQ X [.tmp a,.tmp b,.tmp c] Kn .ret s=Kn (.tup [s.tm.getD a .top,s.tm.getD b .top,s.tm.getD c .top]) s:=by
 rw[inQ]
 simp[yR,zgo,zki]
attribute [go_sem] inQ_ret3
def zgp:Contract:=fun _ args=>⟨∃ l,args=[zf 5 encEv l]∧l.length≤1000000∧∀ e∈l,EvB e,
 .tup [.cptr (zz (replayed levelE (zi zI (arg args 0))).1),.int .i64 (replayed levelE (zi zI (arg args 0))).2.1,.int .i64 (replayed levelE (zi zI (arg args 0))).2.2],none⟩
attribute [go_sem] zgp
theorem zaE (lv:Int→Int)(h:Hist)(e:Ev):(kr lv h e).events=h.events++[e]:=by
 unfold kr
 split <;> rfl
theorem zcK {lv:Int→Int}:∀ (l:List Ev) (h:Hist) (i:Nat),HOk lv h→HOk lv (replayL lv h l i).1∧(replayL lv h l i).1.events.length≤h.events.length+l.length
 | [],h,i,hh=>⟨hh,Nat.le_add_right _ _⟩
 | e::l,h,i,hh=>by
   unfold replayL
   simp only
   split
   ·exact⟨hh,Nat.le_add_right _ _⟩
   ·rename_i hw
    have hw:zv [eventE e,zT h e]=0:=Classical.not_not.1 hw
    rw[wb] at hw
    obtain⟨q1,q2⟩:=zcK l (kr lv h e) (i+1) (hh.add (hw _ (by simp)) (hw _ (by simp)))
    refine⟨q1,Nat.le_trans q2 ?_⟩
    rw[zaE,List.length_append]
    simp only[List.length_cons,List.length_nil]
    omega
theorem yS {lv:Int→Int}(l:List Ev):HOk lv (replayed lv l).1∧(replayed lv l).1.events.length≤1000:=by
 unfold replayed
 split
 ·exact⟨HOk.init,by decide⟩
 ·obtain⟨q1,q2⟩:=zcK (lv:=lv) l {} 0 HOk.init
  exact⟨q1,Nat.le_trans q2 (by show 0+l.length≤1000;omega)⟩
theorem zaH (l:List Ev):HistPre (replayed levelE l).1:=(yS l).1.pre (yS l).2
def wO (lv:Int→Int)(l:List Ev)(e:Ev):Int :=
 let w:=zv [(replayed lv l).2.2,eventE e,err (decide (1000≤l.length)) 5]
 if w≠0 then w else zT (replayed lv l).1 e
def je:Contract:=fun _ args=>⟨∃ l e,args=[zf 5 encEv l,.agg (encEv e)]∧l.length≤1000000∧(∀ e∈l,EvB e)∧EvB e,.int .i64 (wO levelE (zi zI (arg args 0)) (zI (cellsOf (arg args 1)))),none⟩
def wz (lv:Int→Int)(l:List Ev):Reg×Nat×Int:=if (replayed lv l).2.2≠0 then ({},(replayed lv l).2.1,(replayed lv l).2.2) else ((replayed lv l).1.now,0,0)
def qY:Contract:=fun _ args=>⟨∃ l,args=[zf 5 encEv l]∧l.length≤1000000∧(∀ e∈l,EvB e),.tup [.agg (zt (wz levelE (zi zI (arg args 0))).1),.int .i64 (wz levelE (zi zI (arg args 0))).2.1,.int .i64 (wz levelE (zi zI (arg args 0))).2.2],none⟩
attribute [go_sem] je qY
theorem dec_evsX (l:List Ev):zi zI (.sl l.length 5 fun i=>[.int .i64 (el l i).num,.str (el l i).kind,.sl (el l i).names.length 1 (fun j=>[.str (el (el l i).names j)]),.sl (el l i).vals.length 1 (fun j=>[.int .i64 (el (el l i).vals j)]),.str (el l i).text])=l:=wF l
theorem pu_evsX (l:List Ev):Pu (.sl l.length 5 fun i=>[.int .i64 (el l i).num,.str (el l i).kind,.sl (el l i).names.length 1 (fun j=>[.str (el (el l i).names j)]),.sl (el l i).vals.length 1 (fun j=>[.int .i64 (el (el l i).vals j)]),.str (el l i).text])↔True:=kM l
attribute [go_sem] dec_evsX pu_evsX
end Go.Fly.Off
end
